/- Plain: numbers as bytes, the lowest first; maps from homes to sectors as rising lists. The walks of package wal's numbers: put, get. The walks of package wal's sectors: control, listed; may, cost. Maps from homes to sectors, as they lie in memory. The log as plain data, and how it lies in memory; the walks of its small methods. The walk of the log's Read. The walk of the log's Stage. A log and its disk together; the walk of mark. The walk of listed. Rows of bytes held one against the other. -/
import Derived.Test.YtmhgahkainmbkaaBase
import Derived.Test.YtmhgahkainmbkaaSumP
import Derived.Test.YtmhgahkainmbkaaMarks
import Derived.Laws.BitsAllLaws
import Derived.Test.YtmhgahkainmbkaaDisk7
import Derived.MapKept
namespace Go.Proofs.Ytmhgahkainmbkaa
open Go.RowKit

def le : Nat → Nat → List UInt8
  | 0, _ => []
  | k + 1, v => UInt8.ofNat v :: le k (v / 256)
def ofLe : List UInt8 → Nat
  | [] => 0
  | c :: l => c.toNat + 256 * ofLe l
theorem le_length (k : Nat) : ∀ v, (le k v).length = k := by
  induction k with
  | zero => intro v; rfl
  | succ k ih => intro v; simp [le, ih]
theorem le_succ (k : Nat) : ∀ v, le (k + 1) v = le k v ++ [UInt8.ofNat (v / 256 ^ k)] := by
  induction k with
  | zero => intro v; simp [le]
  | succ k ih =>
    intro v
    rw [le, ih (v / 256)]
    conv => rhs; rw [le]
    rw [List.cons_append, Nat.div_div_eq_div_mul, Nat.pow_succ, Nat.mul_comm]
theorem ofLe_le (k : Nat) : ∀ v, ofLe (le k v) = v % 256 ^ k := by
  induction k with
  | zero => intro v; simp [le, ofLe, Nat.mod_one]
  | succ k ih =>
    intro v
    rw [le, ofLe, ih, UInt8.toNat_ofNat', show 256 ^ (k + 1) = 256 * 256 ^ k from by rw [Nat.pow_succ, Nat.mul_comm], Nat.mod_mul]
theorem ofLe_lt (l : List UInt8) : ofLe l < 256 ^ l.length := by
  induction l with
  | nil => simp [ofLe]
  | cons c l ih =>
    have := c.toNat_lt
    simp only [ofLe, List.length_cons, Nat.pow_succ]
    omega
theorem le_ofLe (l : List UInt8) : le l.length (ofLe l) = l := by
  induction l with
  | nil => rfl
  | cons c l ih =>
    have := c.toNat_lt
    simp only [ofLe, List.length_cons, le]
    rw [show (c.toNat + 256 * ofLe l) / 256 = ofLe l by omega, ih]
    congr 1
    rw [UInt8.ofNat_eq_iff_mod_eq_toNat]
    omega
theorem le_inj {k a b : Nat} (ha : a < 256 ^ k) (hb : b < 256 ^ k) (h : le k a = le k b) : a = b := by
  have h1 := ofLe_le k a
  have h2 := ofLe_le k b
  rw [h] at h1
  rw [Nat.mod_eq_of_lt ha] at h1
  rw [Nat.mod_eq_of_lt hb] at h2
  omega
theorem ofLe_lt8 {l : List UInt8} (h : l.length ≤ 8) : ofLe l < 18446744073709551616 := by
  have h1 := ofLe_lt l
  have h2 : 256 ^ l.length ≤ 256 ^ 8 := Nat.pow_le_pow_right (by decide) h
  have h3 : (256 : Nat) ^ 8 = 18446744073709551616 := by decide
  omega
theorem ofLe_drop {l : List UInt8} {k : Nat} (h : k < l.length) : ofLe (l.drop k) = l[k].toNat + 256 * ofLe (l.drop (k + 1)) := by
  rw [List.drop_eq_getElem_cons h, ofLe]

abbrev SecMap := List (Nat × List UInt8)
def Rising (m : SecMap) : Prop := m.Pairwise (fun a b => a.1 < b.1)
def mget : SecMap → Nat → Option (List UInt8)
  | [], _ => none
  | (k, v) :: m, i => if i = k then some v else mget m i
def mput : SecMap → Nat → List UInt8 → SecMap
  | [], i, x => [(i, x)]
  | (k, v) :: m, i, x => if i < k then (i, x) :: (k, v) :: m else if i = k then (k, x) :: m else (k, v) :: mput m i x
def mcopy (a b : SecMap) : SecMap := b.foldl (fun m x => mput m x.1 x.2) a

theorem Rising.tail {x : Nat × List UInt8} {m : SecMap} (h : Rising (x :: m)) : Rising m := (List.pairwise_cons.1 h).2
theorem Rising.head {x : Nat × List UInt8} {m : SecMap} (h : Rising (x :: m)) : ∀ y ∈ m, x.1 < y.1 := (List.pairwise_cons.1 h).1
theorem mget_none {m : SecMap} {i : Nat} : mget m i = none ↔ ∀ y ∈ m, y.1 ≠ i := by
  induction m with
  | nil => simp [mget]
  | cons x m ih =>
    obtain ⟨k, v⟩ := x
    by_cases h : i = k
    · subst h; simp [mget]
    · simp [mget, h, ih, Ne.symm h]
theorem mget_some {m : SecMap} (hm : Rising m) {i : Nat} {v : List UInt8} : mget m i = some v ↔ (i, v) ∈ m := by
  induction m with
  | nil => simp [mget]
  | cons x m ih =>
    obtain ⟨k, u⟩ := x
    have hh := hm.head
    by_cases h : i = k
    · subst h
      simp only [mget, if_true, List.mem_cons, Prod.mk.injEq, true_and]
      constructor
      · intro h1; injection h1 with h1; exact .inl h1.symm
      · rintro (h1 | h1)
        · rw [h1]
        · exact absurd (hh _ h1) (Nat.lt_irrefl _)
    · simp only [mget, h, if_false, ih hm.tail, List.mem_cons, Prod.mk.injEq, false_and, false_or]
theorem mput_keys {m : SecMap} {i : Nat} {x : List UInt8} {y : Nat × List UInt8} (h : y ∈ mput m i x) : y = (i, x) ∨ (y ∈ m ∧ y.1 ≠ i) ∨ y ∈ m := by
  induction m with
  | nil => simp [mput] at h; exact .inl h
  | cons z m ih =>
    obtain ⟨k, v⟩ := z
    unfold mput at h
    split at h
    · rcases List.mem_cons.1 h with h | h
      · exact .inl h
      · exact .inr (.inr h)
    · split at h
      · rename_i h1 h2
        rcases List.mem_cons.1 h with h | h
        · subst h2; exact .inl h
        · exact .inr (.inr (List.mem_cons_of_mem _ h))
      · rcases List.mem_cons.1 h with h | h
        · exact .inr (.inr (by rw [h]; exact List.mem_cons_self))
        · rcases ih h with h | h | h
          · exact .inl h
          · exact .inr (.inr (List.mem_cons_of_mem _ h.1))
          · exact .inr (.inr (List.mem_cons_of_mem _ h))
theorem mput_rising {m : SecMap} (hm : Rising m) (i : Nat) (x : List UInt8) : Rising (mput m i x) := by
  induction m with
  | nil => exact List.pairwise_singleton _ _
  | cons z m ih =>
    obtain ⟨k, v⟩ := z
    have hh := hm.head
    unfold mput
    split
    · refine List.pairwise_cons.2 ⟨fun y hy => ?_, hm⟩
      rcases List.mem_cons.1 hy with h | h
      · rw [h]; assumption
      · exact Nat.lt_trans ‹_› (hh y h)
    · split
      · exact List.pairwise_cons.2 ⟨hh, hm.tail⟩
      · refine List.pairwise_cons.2 ⟨fun y hy => ?_, ih hm.tail⟩
        rcases mput_keys hy with h | h | h
        · rw [h]; show k < i; omega
        · exact hh y h.1
        · exact hh y h
theorem mget_put {m : SecMap} (hm : Rising m) (i j : Nat) (x : List UInt8) : mget (mput m i x) j = if j = i then some x else mget m j := by
  induction m with
  | nil => simp [mput, mget]
  | cons z m ih =>
    obtain ⟨k, v⟩ := z
    have hh := hm.head
    unfold mput
    split
    · simp [mget]
    · split
      · rename_i h1 h2; subst h2
        simp only [mget]
        split <;> rfl
      · rename_i h1 h2
        simp only [mget, ih hm.tail]
        by_cases hj : j = k
        · subst hj; simp [Ne.symm h2]
        · simp [hj]
theorem mext {a b : SecMap} (ha : Rising a) (hb : Rising b) (h : ∀ i, mget a i = mget b i) : a = b := by
  induction a generalizing b with
  | nil =>
    cases b with
    | nil => rfl
    | cons y b =>
      obtain ⟨k, v⟩ := y
      have := h k
      simp [mget] at this
  | cons x a ih =>
    obtain ⟨i, u⟩ := x
    cases b with
    | nil =>
      have := h i
      simp [mget] at this
    | cons y b =>
      obtain ⟨k, v⟩ := y
      have h1 := h i
      have h2 := h k
      simp only [mget, if_true] at h1 h2
      have hik : i = k := by
        by_cases e : i = k
        · exact e
        · rw [if_neg e] at h1
          rw [if_neg (Ne.symm e)] at h2
          have m1 := hb.head _ ((mget_some hb.tail).1 h1.symm)
          have m2 := ha.head _ ((mget_some ha.tail).1 h2)
          simp only at m1 m2
          omega
      subst hik
      rw [if_pos rfl] at h1
      injection h1 with h1
      subst h1
      congr 1
      refine ih ha.tail hb.tail fun j => ?_
      have hj := h j
      simp only [mget] at hj
      by_cases e : j = i
      · subst e
        rw [mget_none.2 (fun y hy => Nat.ne_of_gt (ha.head y hy)), mget_none.2 (fun y hy => Nat.ne_of_gt (hb.head y hy))]
      · rwa [if_neg e, if_neg e] at hj
theorem mcopy_rising {a : SecMap} (ha : Rising a) (b : SecMap) : Rising (mcopy a b) := by
  induction b generalizing a with
  | nil => exact ha
  | cons x b ih => exact ih (mput_rising ha _ _)
theorem mget_copy {a b : SecMap} (ha : Rising a) (hb : Rising b) (i : Nat) : mget (mcopy a b) i = (mget b i).or (mget a i) := by
  induction b generalizing a with
  | nil => simp [mcopy, mget]
  | cons x b ih =>
    obtain ⟨k, v⟩ := x
    show mget (mcopy (mput a k v) b) i = _
    rw [ih (mput_rising ha _ _) hb.tail, mget_put ha]
    simp only [mget]
    by_cases e : i = k
    · subst e
      rw [mget_none.2 (fun y hy => Nat.ne_of_gt (hb.head y hy))]
      simp
    · simp [e]
theorem mput_length {m : SecMap} (hm : Rising m) (i : Nat) (x : List UInt8) : (mput m i x).length = if (mget m i).isSome then m.length else m.length + 1 := by
  induction m with
  | nil => simp [mput, mget]
  | cons z m ih =>
    obtain ⟨k, v⟩ := z
    have hh := hm.head
    unfold mput
    split
    · rename_i h1
      have : mget ((k, v) :: m) i = none := mget_none.2 (fun y hy => by
        rcases List.mem_cons.1 hy with h | h
        · rw [h]; exact Nat.ne_of_gt h1
        · exact Nat.ne_of_gt (Nat.lt_trans h1 (hh y h)))
      rw [this]; simp
    · split
      · rename_i h1 h2; subst h2; simp [mget]
      · rename_i h1 h2
        simp only [List.length_cons, ih hm.tail, mget, h2, if_false]
        split <;> rfl
/-- A list of pairs with unlike keys, in any order. -/
theorem perm_get {m : SecMap} (hm : Rising m) {l : SecMap} (hp : l.Perm m) {i : Nat} {v : List UInt8} : (i, v) ∈ l ↔ mget m i = some v := by
  rw [mget_some hm, hp.mem_iff]
theorem perm_rising_eq {a b : SecMap} (ha : Rising a) (hb : Rising b) (h : a.Perm b) : a = b := by
  refine mext ha hb fun i => ?_
  cases e : mget b i with
  | none =>
    rw [mget_none] at e ⊢
    exact fun y hy => e y (h.mem_iff.1 hy)
  | some v => rw [mget_some ha, h.mem_iff, ← mget_some hb, e]
end Go.Proofs.Ytmhgahkainmbkaa
namespace Go.Proofs.Ytmhgahkainmbkaa
open Go.RowKit
set_option linter.unusedVariables false
set_option linter.unusedSimpArgs false

theorem setRow_setCell (w : World) (g i : Nat) (a : Array Value) (v : Value) : (w.setRow g a).setCell ⟨g, i, none⟩ v = w.setRow g (a.setIfInBounds i v) := by
  unfold World.setRow World.setCell
  congr 1
  apply Array.ext_getElem?
  intro k
  simp only [Array.getElem?_modify]
  by_cases h : g = k
  · subst h
    simp only [if_true]
    cases w.heap[g]? with
    | none => rfl
    | some o => cases o <;> rfl
  · simp [h]

/-- A row of cells with bytes laid in from o on. -/
def laid (cs : Array Value) (o : Nat) (l : List UInt8) : Array Value := (cs.toList.take o ++ l.map bv ++ cs.toList.drop (o + l.length)).toArray
theorem laid_nil (cs : Array Value) (o : Nat) : laid cs o [] = cs := by
  apply Array.ext'; simp [laid]
theorem laid_size {cs : Array Value} {o : Nat} {l : List UInt8} (h : o + l.length ≤ cs.size) : (laid cs o l).size = cs.size := by
  simp only [laid, List.size_toArray, List.length_append, List.length_take, List.length_map, List.length_drop, Array.length_toList]; omega
theorem laid_snoc {cs : Array Value} {o : Nat} {l : List UInt8} (c : UInt8) (h : o + l.length < cs.size) : (laid cs o l).setIfInBounds (o + l.length) (bv c) = laid cs o (l ++ [c]) := by
  apply Array.ext'
  have hl : (cs.toList.take o ++ l.map bv).length = o + l.length := by simp; omega
  have hd : cs.toList.drop (o + l.length) = cs.toList[o + l.length]'(by simpa using h) :: cs.toList.drop (o + l.length + 1) := List.drop_eq_getElem_cons (by simpa using h)
  simp only [laid, Array.toList_setIfInBounds, hd]
  rw [List.set_append_right _ _ (by omega), hl, Nat.sub_self, List.set_cons_zero]
  simp [List.append_assoc, Nat.add_assoc]
theorem laid_at {cs : Array Value} {o : Nat} {l : List UInt8} (h : o + l.length < cs.size) : (laid cs o l)[o + l.length]? = cs[o + l.length]? := by
  have hl : (cs.toList.take o ++ l.map bv).length = o + l.length := by simp; omega
  have e := Array.getElem?_toList (xs := laid cs o l) (i := o + l.length)
  rw [← e]
  simp only [laid]
  rw [List.getElem?_append_right (by omega), hl, Nat.sub_self, List.getElem?_drop]
  simp

theorem shl8_or (q : Nat) (c : UInt8) (h : q < 72057594037927936) : bits BinOp.or IntKind.u64 ((q : Int) * 256) (IntKind.u64.wrap (c.toNat : Int)) = ((c.toNat + 256 * q : Nat) : Int) := by
  have hc := c.toNat_lt
  rw [wrap_u64_nat _ (by omega), show ((q : Int) * 256) = ((q * 256 : Nat) : Int) by omega, u64_or_nat _ _ (by omega) (by omega), nat_join 8 _ _ (by omega) (by omega)]
  omega
theorem byte_mod (v : Nat) : (v : Int) % 256 = ((UInt8.ofNat v).toNat : Int) := by
  simp [UInt8.toNat_ofNat']

set_option maxHeartbeats 1000000 in
theorem put_any {g o n c : Nat} {t : TypeId} {cs : Array Value} (w : World) (hB : Blk w g t cs) (hle : o + n ≤ cs.size) (hn : n ≤ c) (hc : c ≤ maxLen) (v : Nat) (hv : v < 18446744073709551616) :
    Calls Try.prog 75 #[.slice (some ⟨g, o, none⟩) n c, .int .u64 (v : Int)] w fun e w' => e = .returned (.tuple #[]) ∧ w' = w.setRow g (laid cs o (le n v)) := by
  have hm : n ≤ 9223372036854775807 := by unfold maxLen at hc; omega
  have HB := Lib.hid hB
  clear hB hc
  go_enter Try.func75, Try.ntmps75
  go_wp2
  go_loopw [1, 7] (fun t i wr => ∃ k : Nat, k ≤ n ∧ i = .int .i64 k ∧ t = .int .u64 ((v / 256 ^ k : Nat) : Int) ∧ wr = w.setRow g (laid cs o (le k v))) (fun _ i _ => n - (intOf i).toNat)
  case atStart => exact ⟨0, Nat.zero_le _, rfl, by simp, by rw [le, laid_nil]; exact (setRow_self w g cs _ _ HB.out).symm⟩
  case round =>
    obtain ⟨k, hk, rfl, rfl, hw⟩ := hrel
    by_cases hlt : k < n
    · have hB2 : Blk wr g t (laid cs o (le k v)) := by rw [hw]; exact HB.out.row _
      have hcell : wr.cell? ⟨g, o + k, none⟩ = cs[o + k]? := by
        rw [hB2.cell]; have := laid_at (cs := cs) (o := o) (l := le k v) (by rw [le_length]; omega); rwa [le_length] at this
      rw [Array.getElem?_eq_getElem (by omega)] at hcell
      have hfz := hB2.frozen (o + k)
      have hs := laid_snoc (cs := cs) (o := o) (l := le k v) (UInt8.ofNat (v / 256 ^ k)) (by rw [le_length]; omega)
      rw [le_length, ← le_succ] at hs
      have hdiv : v / 256 ^ k / 256 = v / 256 ^ (k + 1) := by rw [Nat.div_div_eq_div_mul, Nat.pow_succ]
      have hvk : v / 256 ^ k < 18446744073709551616 := Nat.lt_of_le_of_lt (Nat.div_le_self _ _) hv
      have HW := Lib.hid hw
      have HS := Lib.hid hs
      have HD := Lib.hid hdiv
      generalize v / 256 ^ k = q at *
      clear hw hs hB2 hdiv
      go_wp2
      refine ⟨⟨k + 1, by omega, by go_num, ?_, ?_⟩, by simp [intOf]; omega⟩
      · rw [← HD.out]; congr 1
      · rw [HW.out, byte_mod, ← HS.out, ← setRow_setCell]; rfl
    · obtain rfl : k = n := by omega
      have HW := Lib.hid hw
      clear hw
      go_wp2
      go_end0
      exact ⟨rfl, HW.out⟩

set_option maxHeartbeats 1000000 in
theorem get_any {A : Option Addr} {n c B : Nat} {l : List UInt8} (w : World) (h : Slc w B 1 A n c (l.map bv)) (h8 : n ≤ 8) :
    Calls Try.prog 63 #[.slice A n c] w fun e w' => e = .returned (.int .u64 (ofLe l : Int)) ∧ w = w' := by
  have hlen : l.length = n := by have := h.len; simpa using this
  have hlt8 := ofLe_lt8 (l := l) (by omega)
  have HL := Lib.hid hlen
  clear hlen
  go_enter Try.func63, Try.ntmps63
  go_wp2
  go_loop [3, 4] (fun t i => ∃ k : Nat, k ≤ n ∧ i = .int .i64 ((k : Int) - 1) ∧ t = .int .u64 ((ofLe (l.drop k) : Nat) : Int)) (fun _ i => (intOf i + 1).toNat)
  case atStart => exact ⟨n, Nat.le_refl _, rfl, by rw [List.drop_of_length_le (by rw [HL.out]; exact Nat.le_refl _)]; rfl⟩
  case round =>
    obtain ⟨k, hk, rfl, rfl⟩ := hrel
    rcases k with _ | k
    · go_wp2
      go_ret
      exact ⟨rfl, rfl⟩
    · have hkn : k < n := by omega
      obtain ⟨b, off, rfl, hb, hl, hcell⟩ := h.byte hkn
      have hd := ofLe_drop hl
      have hlt : ofLe (l.drop (k + 1)) < 72057594037927936 := by
        have h1 := ofLe_lt (l.drop (k + 1))
        have h2 : (l.drop (k + 1)).length ≤ 7 := by rw [List.length_drop, HL.out]; omega
        have h3 : 256 ^ (l.drop (k + 1)).length ≤ 256 ^ 7 := Nat.pow_le_pow_right (by decide) h2
        have h4 : (256 : Nat) ^ 7 = 72057594037927936 := by decide
        omega
      have HD := Lib.hid hd
      have hi : ((k + 1 : Nat) : Int) - 1 = (k : Int) := by omega
      rw [hi]
      clear hd hi h hb
      generalize ofLe (l.drop (k + 1)) = q at *
      go_wp2
      exact ⟨⟨k, by omega, rfl, by rw [shl8_or q _ hlt, HD.out]⟩, by simp [intOf]⟩
end Go.Proofs.Ytmhgahkainmbkaa
namespace Go.Proofs.Ytmhgahkainmbkaa
open Go.RowKit
set_option linter.unusedVariables false
set_option linter.unusedSimpArgs false

/-- A result that is a row of cells. -/
theorem results_row {P : Program} {fn : Func} {t : Tmp} {ty T : TypeId} {d : TypeDesc} {g : Nat} {cs : Array Value} {fr : Nat × Nat} {w : World} {tmps : Array Value} (h : fn.results = #[.cell t ty]) (ht : tmps.getD t undef = .pointer (some ⟨g, 0, none⟩))
    (hb : w.heap[g]? = some (.cells cs T fr)) (hu : P.underlying ty = some d) (hd : d.isRow = true) (hi : (P.info? ty).map (·.size) = some cs.size) : (results fn tmps).run P w = .ok (.agg cs) w := by
  have hl := LoadS.of_blk (P := P) (o := 0) (n := cs.size) hb hu hd hi (by omega)
  rw [show cs.extract 0 (0 + cs.size) = cs by simp] at hl
  unfold LoadS at hl
  simp only [Instr.loadAt, Instr.sureAddr, Sem.run_bind, Sem.run_pure, Result.andThen_ok] at hl
  simp only [Array.getD_eq_getD_getElem?] at ht
  simp [results, h, ht, asAddr, hl]

theorem u_wsector : Try.prog.underlying 80 = some (.array 128 5) := by kernel_rfl
theorem i_wsector : (Try.prog.info? 80).map (·.size) = some 128 := by kernel_rfl
theorem load_wsector_mark (x : Value) : Instr.loadAt 80 x = LoadS 80 x := rfl
theorem store_wsector_mark (x v : Value) : Instr.storeAt 80 x v = StoreS 80 x v := rfl
theorem alloc_wsector_mark : Instr.alloc 80 true (.tuple #[]) = AllocS 80 := rfl
theorem alloc_wsector (w : World) : Sem.run Try.prog (AllocS 80) w = .ok (.pointer (some ⟨w.heap.size, 0, none⟩)) (w.alloc (.cells (zbytes 128) 80)) := by kernel_rfl

/-- copy of a string into a row. -/
theorem CopyS.str {P : Program} {w : World} {dT sT ty elem t : TypeId} {g o dLen dCap : Nat} {cur : Array Value} {s : ByteArray} {l : List UInt8}
    (hu : P.underlying dT = some (.slice elem)) (hs : (P.info? elem).map (·.size) = some 1) (hB : Blk w g t cur) (hl : s.data.toList = l) (hn : l.length ≤ dLen) (hfit : o + l.length ≤ cur.size) :
    (CopyS #[dT, sT] ty #[.slice (some ⟨g, o, none⟩) dLen dCap, .string s]).run P w = .ok (.int .i64 (l.length : Int)) (w.setRow g (laid cur o l)) := by
  have hst := run_storeCells_at P g o t (l.map bv) 0 cur w hB (by simpa using hfit) (bvs_one l)
  have hsz : s.size = l.length := by rw [← hl]; rfl
  cases hq : P.info? elem with
  | none => simp [hq] at hs
  | some i =>
    have hi : i.size = 1 := by simpa [hq] using hs
    have hex : (s.extract 0 (Nat.min s.size dLen)).data.map (fun b => Value.int .u8 (b.toNat : Int)) = (l.map bv).toArray := by
      rw [show Nat.min s.size dLen = s.size by rw [hsz]; exact Nat.min_eq_left hn]
      have : s.extract 0 s.size = s := ByteArray.extract_zero_size
      rw [this]
      apply Array.ext'
      rw [Array.toList_map, hl]
      rfl
    simp only [Nat.add_zero, List.length_map] at hst
    unfold CopyS
    simp only [Builtin.copy_, Builtin.lenOf, Builtin.firstCells, run_underlying hu, Sem.run_bind, Sem.run_pure, Result.andThen_ok, sizeOf, typeInfo, hq, hex, List.getElem?_toArray, List.getElem?_cons_zero, List.getElem?_cons_succ, hst, goInt]
    simp [hq, hi, hst, laid, hsz, show min l.length dLen = l.length from Nat.min_eq_left hn]

/-- A sector whose first bytes are there. -/
def filled (d : List UInt8) : Array Value := (d.map bv ++ List.replicate (128 - d.length) (Value.int .u8 0)).toArray
theorem filled_size {d : List UInt8} (h : d.length ≤ 128) : (filled d).size = 128 := by simp [filled]; omega
theorem filled_nil : filled [] = zbytes 128 := rfl
theorem laid_filled (d l : List UInt8) {o : Nat} (ho : o = d.length) (h : d.length + l.length ≤ 128) : laid (filled d) o l = filled (d ++ l) := by
  subst ho
  apply Array.ext'
  simp only [laid, filled]
  rw [List.take_left' (by simp), List.drop_append, List.drop_eq_nil_of_le (by simp)]
  simp only [List.length_map, List.map_append, List.nil_append, List.drop_replicate, List.length_append]
  rw [show 128 - d.length - (d.length + l.length - d.length) = 128 - (d.length + l.length) by omega]
def pad (d : List UInt8) : List UInt8 := d ++ List.replicate (128 - d.length) 0
theorem filled_pad (d : List UInt8) : filled d = ((pad d).map bv).toArray := by simp [filled, pad, bv]
theorem pad_length {d : List UInt8} (h : d.length ≤ 128) : (pad d).length = 128 := by simp [pad]; omega
theorem filled_slc {w : World} {g : Nat} {t : TypeId} {d : List UInt8} (h : Blk w g t (filled d)) (hd : d.length ≤ 128) {n c : Nat} (hn : n = d.length) (hc : c ≤ maxLen) (hnc : n ≤ c) : Slc w (g + 1) 1 (some ⟨g, 0, none⟩) n c (d.map bv) := by
  subst hn
  have := h.slc (sz := 1) (n := d.length) (c := c) (by rw [filled_size hd]; omega) hnc hc
  rw [Nat.mul_one] at this
  simpa [filled] using this

def magicB : List UInt8 := [98, 111, 111, 116, 106, 97, 99, 107]
def ctlHead (e u t : Nat) : List UInt8 := magicB ++ le 8 e ++ le 2 u ++ le 8 t
theorem ctlHead_length (e u t : Nat) : (ctlHead e u t).length = 26 := by simp [ctlHead, le_length, magicB]
/-- The control's bytes. -/
def ctl (e u t : Nat) : List UInt8 := pad (ctlHead e u t ++ le 8 (updAll begin64 (ctlHead e u t)).toNat)
theorem ctl_length (e u t : Nat) : (ctl e u t).length = 128 := pad_length (by simp [ctlHead_length, le_length])
theorem byte_size1 : (Try.prog.info? 5).map (·.size) = some 1 := by kernel_rfl

/-- A sector under way: block g holds its bytes so far, block g0 is for the result. -/
structure SecSt (w W : World) (B g0 g : Nat) (d : List UInt8) : Prop where
  at_ : Blk W g 80 (filled d)
  res : Blk W g0 80 (filled [])
  below : Below B w W
theorem put_filled {w W : World} {B g0 g : Nat} {d : List UInt8} (h : SecSt w W B g0 g d) (hg : B ≤ g) (hne : g0 ≠ g) {o n c : Nat} (ho : o = d.length) (hle : d.length + n ≤ 128) (hn : n ≤ c) (hc : c ≤ 128) (v : Nat) (hv : v < 18446744073709551616) :
    Calls Try.prog 75 #[.slice (some ⟨g, o, none⟩) n c, .int .u64 (v : Int)] W fun e w' => e = .returned (.tuple #[]) ∧ SecSt w w' B g0 g (d ++ le n v) := by
  refine (put_any W h.at_ (by rw [filled_size (by omega)]; omega) hn (Nat.le_trans hc (by decide)) v hv).mono ?_
  rintro e w' ⟨rfl, rfl⟩
  rw [laid_filled d (le n v) ho (by rw [le_length]; omega)]
  exact ⟨rfl, h.at_.row _, h.res.row_far hne _, below_setRow h.below hg _⟩

section
attribute [local go_sem ↓] load_wsector_mark store_wsector_mark alloc_wsector_mark copyS_mark
attribute [local go_sem] alloc_wsector

set_option maxRecDepth 100000 in
set_option maxHeartbeats 1000000 in
theorem control_any (e u t : Nat) (he : e < 18446744073709551616) (hu : u < 65536) (ht : t < 18446744073709551616) (w : World) :
    Calls Try.prog 64 #[.int .u64 (e : Int), .int .i64 (u : Int), .int .u64 (t : Int)] w fun e' w' => e' = .returned (.agg ((ctl e u t).map bv).toArray) ∧ Below w.heap.size w w' := by
  obtain ⟨W, hW⟩ : ∃ W, W = (w.alloc (.cells (zbytes 128) 80)).alloc (.cells (zbytes 128) 80) := ⟨_, rfl⟩
  have hb : Below w.heap.size w W := by subst hW; exact ((Below.refl _ _).alloc (Nat.le_refl _) _).alloc (by simp) _
  have hB0 : Blk W w.heap.size 80 (filled []) := by subst hW; exact (Blk.new w _ _).alloc _
  have hB1 : Blk W (w.heap.size + 1) 80 (filled []) := by subst hW; have := Blk.new (w.alloc (.cells (zbytes 128) 80)) 80 (zbytes 128); rwa [World.size_alloc] at this
  have hcopy := CopyS.str (P := Try.prog) (w := W) (dT := 39) (sT := 9) (ty := 3) (o := 0) (dLen := 128) (dCap := 128) (s := ⟨#[98, 111, 111, 116, 106, 97, 99, 107]⟩) (l := magicB) Try.underlying39 byte_size1 hB1 rfl (by decide) (by decide)
  rw [laid_filled [] magicB (o := 0) rfl (by decide), List.nil_append] at hcopy
  have hl8e := le_length 8 e
  have hl2u := le_length 2 u
  have hl8t := le_length 8 t
  obtain ⟨W1, hW1⟩ : ∃ W1, W1 = W.setRow (w.heap.size + 1) (filled magicB) := ⟨_, rfl⟩
  rw [← hW1, hW] at hcopy
  have h1 : SecSt w W1 w.heap.size w.heap.size (w.heap.size + 1) magicB := by
    subst hW1; exact ⟨hB1.row _, hB0.row_far (by omega) _, below_setRow hb (by omega) _⟩
  have L1 : (magicB).length = 8 := rfl
  have L2 : (magicB ++ le 8 e).length = 16 := by simp [hl8e, L1]
  have L3 : (magicB ++ le 8 e ++ le 2 u).length = 18 := by simp [hl8e, hl2u, L1]
  have L4 := ctlHead_length e u t
  have H1 := Lib.hid h1
  have HL1 := Lib.hid L1
  have HL2 := Lib.hid L2
  have HL3 := Lib.hid L3
  have HL4 := Lib.hid L4
  clear hW hW1 hb hB0 hB1 hl8e hl2u hl8t h1 L1 L2 L3 L4
  go_enter Try.func64, Try.ntmps64
  go_wp2_with fail
  refine (put_filled H1.out (by omega) (by omega) (by rw [HL1.out]) (by rw [HL1.out]; omega) (by omega) (by omega) e he).mono ?_
  rintro e' W2 ⟨rfl, h2⟩
  have H2 := Lib.hid h2
  clear h2
  go_wp2_with fail
  refine (put_filled H2.out (by omega) (by omega) (by rw [HL2.out]) (by rw [HL2.out]; omega) (by omega) (by omega) u (by omega)).mono ?_
  rintro e' W3 ⟨rfl, h3⟩
  have H3 := Lib.hid h3
  clear h3
  go_wp2_with fail
  refine (put_filled H3.out (by omega) (by omega) (by rw [HL3.out]) (by rw [HL3.out]; omega) (by omega) (by omega) t ht).mono ?_
  rintro e' W4 ⟨rfl, h4⟩
  have H4 := Lib.hid (show SecSt w W4 w.heap.size w.heap.size (w.heap.size + 1) (ctlHead e u t) from h4)
  clear h4
  go_wp2_with fail
  refine region_tail 3 (by kernel_rfl) (by kernel_rfl) ?_
  simp only [List.take_succ_cons, List.take_zero, List.drop_succ_cons, List.drop_zero]
  obtain ⟨W5, hW5⟩ : ∃ W5, W5 = W4.drew := ⟨_, rfl⟩
  have h5 : SecSt w W5 w.heap.size w.heap.size (w.heap.size + 1) (ctlHead e u t) := by rw [hW5]; exact ⟨H4.out.at_.drew, H4.out.res.drew, H4.out.below.drew⟩
  rw [← hW5]
  have hS := filled_slc h5.at_ (by rw [HL4.out]; omega) (n := 26) (c := 128) HL4.out.symm (by decide) (by omega)
  have H5 := Lib.hid h5
  have HS := Lib.hid hS
  clear hW5 h5 hS
  still_step
  still_step
  still_call ((sum_any _ _ _ _ _ W5 HS.out).mono fun _ _ h => ⟨h.1, h.2.symm⟩)
  refine wpStill_nil ?_
  go_wp2_with fail
  refine (put_filled H5.out (by omega) (by omega) (by rw [HL4.out]) (by rw [HL4.out]; omega) (by omega) (by omega) _ (UInt64.toNat_lt _)).mono ?_
  rintro e' W7 ⟨rfl, h7⟩
  obtain ⟨f, hf⟩ : ∃ f, f = ctl e u t := ⟨_, rfl⟩
  have hfl : f.length = 128 := by rw [hf]; exact ctl_length e u t
  have hB7 : Blk W7 (w.heap.size + 1) 80 (f.map bv).toArray := by
    have := h7.at_
    rw [filled_pad] at this
    rw [hf]; exact this
  have hld := LoadS.of_blk (P := Try.prog) (o := 0) (n := 128) hB7 u_wsector rfl i_wsector (by simp [hfl])
  rw [show (f.map bv).toArray.extract 0 (0 + 128) = (f.map bv).toArray by apply Array.ext'; simp only [Array.toList_extract, List.extract_eq_take_drop, List.drop_zero]; rw [List.take_of_length_le (by simp [hfl])]] at hld
  have hst := StoreS.of_blk (P := Try.prog) (o := 0) (ty := 80) (vs := (f.map bv).toArray) h7.res (by simp only [List.size_toArray, List.length_map, hfl]; exact i_wsector) (by simp [filled_size, hfl]) (fun v hv => bvs_one f v (by simpa using hv))
  generalize hrow : ((filled []).toList.take 0 ++ (f.map bv).toArray.toList ++ (filled []).toList.drop (0 + (f.map bv).toArray.toList.length)).toArray = row at hst
  have hrowf : row = (f.map bv).toArray := by
    subst hrow
    apply Array.ext'
    simp [filled, hfl]
  rw [hrowf] at hst
  obtain ⟨W8, hW8⟩ : ∃ W8, W8 = W7.setRow w.heap.size (f.map bv).toArray := ⟨_, rfl⟩
  rw [← hW8] at hst
  have hb8 : Below w.heap.size w W8 := by rw [hW8]; exact below_setRow h7.below (Nat.le_refl _) _
  have hB8 : Blk W8 w.heap.size 80 (f.map bv).toArray := by rw [hW8]; exact h7.res.row _
  have HB8 := Lib.hid hB8
  have HF := Lib.hid hf
  have HFL := Lib.hid hfl
  clear hB7 h7 hW8 hrowf hrow hB8 hf hfl
  go_wp2_with fail
  exact bodyPost_ret (v := .agg (f.map bv).toArray) (results_row (t := 6) (g := w.heap.size) rfl rfl HB8.out u_wsector rfl (by simp only [List.size_toArray, List.length_map, HFL.out]; exact i_wsector)) rfl ⟨by rw [HF.out], hb8⟩
end
end Go.Proofs.Ytmhgahkainmbkaa
namespace Go.Proofs.Ytmhgahkainmbkaa
open Go.RowKit Go.MapKept
set_option linter.unusedVariables false
set_option linter.unusedSimpArgs false

def secV (l : List UInt8) : Value := .agg (l.map bv).toArray
def entOf (e : MapEntry) : Value × Value := (e.key, e.val)
def encE (x : Nat × List UInt8) : Value × Value := (.int .i64 (x.1 : Int), secV x.2)
/-- Block g is a map that holds m. -/
def MapAt (w : World) (g : Nat) (m : SecMap) : Prop :=
  ∃ es clock, w.heap[g]? = some (.map es clock) ∧ Stamped es clock ∧ Rising m ∧ ∃ l : SecMap, l.Perm m ∧ es.toList.map entOf = l.map encE

def objSet (w : World) (g : Nat) (o : Obj) : World := { w with heap := w.heap.setIfInBounds g o }
theorem objSet_far {w : World} {g k : Nat} (h : k ≠ g) (o : Obj) : (objSet w g o).heap[k]? = w.heap[k]? := by
  unfold objSet
  exact Array.getElem?_setIfInBounds_ne (Ne.symm h)
theorem objSet_size (w : World) (g : Nat) (o : Obj) : (objSet w g o).heap.size = w.heap.size := by simp [objSet]
theorem Step.objSet {a w : World} {F G : Nat → Prop} (h : Step a w F G) {g : Nat} (hp : F g ∨ a.heap.size ≤ g) (o : Obj) : Step a (objSet w g o) F G :=
  ⟨h.os, h.tape, h.output, by rw [objSet_size]; exact h.size, fun k hk hn => by
    rw [objSet_far (by rintro rfl; rcases hp with hp | hp; exact hn hp; omega)]; exact h.block k hk hn, h.next⟩

section
variable {w w' : World} {g : Nat} {m : SecMap}
theorem MapAt.rising (h : MapAt w g m) : Rising m := by obtain ⟨_, _, _, _, h, _⟩ := h; exact h
theorem MapAt.kept (h : MapAt w g m) (hk : w'.heap[g]? = w.heap[g]?) : MapAt w' g m := by
  obtain ⟨es, clock, h1, h2⟩ := h
  exact ⟨es, clock, hk.trans h1, h2⟩
theorem MapAt.lt (h : MapAt w g m) : g < w.heap.size := by
  obtain ⟨es, clock, h1, h2⟩ := h
  exact (Array.getElem?_eq_some_iff.1 h1).1
theorem MapAt.step {F G : Nat → Prop} (h : MapAt w g m) (s : Step w w' F G) (hn : ¬ F g) : MapAt w' g m := h.kept (s.block g h.lt hn)
theorem MapAt.below {B : Nat} (h : MapAt w g m) (hb : Below B w w') (hg : g < B) : MapAt w' g m := h.kept (hb.block g hg)
theorem MapAt.far {g' : Nat} {t : TypeId} {cs : Array Value} (h : MapAt w g m) (hB : Blk w g' t cs) : g ≠ g' := by
  rintro rfl
  obtain ⟨es, clock, h1, _⟩ := h
  unfold Blk at hB
  rw [hB] at h1
  cases h1
theorem MapAt.new (w : World) : MapAt (w.alloc (.map #[] 0)) w.heap.size [] :=
  ⟨#[], 0, heap_alloc_new w _, stamped_empty 0, List.Pairwise.nil, [], List.Perm.refl _, rfl⟩

theorem encE_keys {es : Array MapEntry} {l : SecMap} (h : es.toList.map entOf = l.map encE) : ∀ x ∈ es.toList, ∃ y ∈ l, x.key = .int .i64 (y.1 : Int) ∧ x.val = secV y.2 := by
  intro x hx
  have : entOf x ∈ l.map encE := by rw [← h]; exact List.mem_map_of_mem hx
  obtain ⟨y, hy, e⟩ := List.mem_map.1 this
  have e' := Prod.ext_iff.1 e
  exact ⟨y, hy, e'.1.symm, e'.2.symm⟩
theorem int_key {a b : Nat} (h : (Value.int .i64 (a : Int)) = .int .i64 (b : Int)) : a = b := by
  injection h with _ h
  omega

/-- What is found at a key. -/
theorem MapAt.find (h : MapAt w g m) (k : Nat) : ∃ es clock, ∃ l : SecMap, w.heap[g]? = some (.map es clock) ∧ Stamped es clock ∧ l.Perm m ∧ es.toList.map entOf = l.map encE ∧
    ((Instr.findNow (.int .i64) (.int .i64 (k : Int)) es.toList 0 = some none ∧ mget m k = none ∧ (∀ x ∈ es.toList, x.key ≠ .int .i64 (k : Int))) ∨
      ∃ j e v, Instr.findNow (.int .i64) (.int .i64 (k : Int)) es.toList 0 = some (some (j, e.val)) ∧ es.toList[j]? = some e ∧ e.key = .int .i64 (k : Int) ∧ e.val = secV v ∧ mget m k = some v ∧ l[j]? = some (k, v)) := by
  obtain ⟨es, clock, h1, h2, h3, l, h4, h5⟩ := h
  refine ⟨es, clock, l, h1, h2, h4, h5, ?_⟩
  have hks : ∀ x ∈ es.toList, IsKey (.int .i64) x.key := fun x hx => by
    obtain ⟨y, _, e, _⟩ := encE_keys h5 x hx
    rw [e]; rfl
  rcases findNow_spec (d := .int .i64) (k := .int .i64 (k : Int)) rfl es.toList 0 hks with ⟨f1, f2⟩ | ⟨j, e, f1, f2, f3⟩
  · refine .inl ⟨f1, ?_, f2⟩
    rw [mget_none]
    intro y hy e
    have hyl := h4.mem_iff.2 hy
    have : encE y ∈ es.toList.map entOf := by rw [h5]; exact List.mem_map_of_mem hyl
    obtain ⟨x, hx, ex⟩ := List.mem_map.1 this
    have ex' := Prod.ext_iff.1 ex
    exact f2 x hx (by rw [show x.key = _ from ex'.1]; simp [encE, e])
  · have hj : (es.toList.map entOf)[j]? = some (entOf e) := by rw [List.getElem?_map, f2]; rfl
    rw [h5, List.getElem?_map] at hj
    cases hlj : l[j]? with
    | none => rw [hlj] at hj; cases hj
    | some y =>
      rw [hlj] at hj
      injection hj with hj
      have hj' := Prod.ext_iff.1 hj
      obtain ⟨a, v⟩ := y
      have ha : a = k := int_key (by have := hj'.1; simp only [encE, entOf] at this; rw [f3] at this; exact this)
      subst ha
      have hv : e.val = secV v := hj'.2.symm
      refine .inr ⟨j, e, v, by rw [f1, Nat.zero_add], f2, f3, hv, ?_, hlj⟩
      rw [mget_some h3]
      exact h4.mem_iff.1 (List.mem_of_getElem? hlj)
end

def LookS (t : TypeId) (x k : Value) (ok : Bool) : Sem Value := Instr.lookup t x k ok
def MapSetS (t : TypeId) (x k v : Value) : Sem Unit := Instr.mapUpdate t x k v
def ClearS (ts : Array TypeId) (t : TypeId) (xs : Array Value) : Sem Value := Builtin.clear_ ts t xs
theorem look_mark (x k : Value) (ok : Bool) : Instr.lookup 75 x k ok = LookS 75 x k ok := rfl
theorem mapSet_mark (x k v : Value) : Instr.mapUpdate 75 x k v = MapSetS 75 x k v := rfl
theorem clear_mark (ts : Array TypeId) (t : TypeId) (xs : Array Value) : Builtin.clear_ ts t xs = ClearS ts t xs := rfl
def zsec : List UInt8 := List.replicate 128 0
theorem zsec_val : Value.agg Try.zeroCells80 = secV zsec := by kernel_rfl

/-- What a look-up tells. -/
def lookV (m : SecMap) (k : Nat) : List UInt8 := (mget m k).getD zsec
theorem LookS.ok {w : World} {g : Nat} {m : SecMap} (h : MapAt w g m) (k : Nat) :
    (LookS 75 (.map (some g)) (.int .i64 (k : Int)) true).run Try.prog w = .ok (.tuple #[secV (lookV m k), .bool (mget m k).isSome]) w := by
  obtain ⟨es, clock, l, h1, h2, h3, h4, ⟨f1, f2, _⟩ | ⟨j, e, v, f1, f2, f3, f4, f5, _⟩⟩ := h.find k
  · unfold LookS
    simp [Instr.lookup, run_underlying Try.underlying75, MapKept.run_getObj_map h1, run_checkKey Try.underlying3 (k := .int .i64 (k : Int)) rfl, run_findKey Try.underlying3 f1, Result.andThen, zsec_val, lookV, f2]
  · unfold LookS
    simp [Instr.lookup, run_underlying Try.underlying75, MapKept.run_getObj_map h1, run_checkKey Try.underlying3 (k := .int .i64 (k : Int)) rfl, run_findKey Try.underlying3 f1, Result.andThen, lookV, f5, f4]
theorem LookS.plain {w : World} {g : Nat} {m : SecMap} (h : MapAt w g m) (k : Nat) :
    (LookS 75 (.map (some g)) (.int .i64 (k : Int)) false).run Try.prog w = .ok (secV (lookV m k)) w := by
  obtain ⟨es, clock, l, h1, h2, h3, h4, ⟨f1, f2, _⟩ | ⟨j, e, v, f1, f2, f3, f4, f5, _⟩⟩ := h.find k
  · unfold LookS
    simp [Instr.lookup, run_underlying Try.underlying75, MapKept.run_getObj_map h1, run_checkKey Try.underlying3 (k := .int .i64 (k : Int)) rfl, run_findKey Try.underlying3 f1, Result.andThen, zsec_val, lookV, f2]
  · unfold LookS
    simp [Instr.lookup, run_underlying Try.underlying75, MapKept.run_getObj_map h1, run_checkKey Try.underlying3 (k := .int .i64 (k : Int)) rfl, run_findKey Try.underlying3 f1, Result.andThen, lookV, f5, f4]

theorem cons_erase_perm {α : Type} : ∀ (l : List α) (j : Nat) (h : j < l.length), (l[j] :: l.eraseIdx j).Perm l
  | [], _, h => by simp at h
  | a :: l, 0, _ => List.Perm.refl _
  | a :: l, j + 1, h => (List.Perm.swap _ _ _).trans (List.Perm.cons a (cons_erase_perm l j (by simpa using h)))
theorem set_perm {m l : SecMap} (hm : Rising m) (hp : l.Perm m) {j k : Nat} {u : List UInt8} (x : List UInt8) (hj : l[j]? = some (k, u)) : (l.set j (k, x)).Perm (mput m k x) := by
  have hjl : j < l.length := (List.getElem?_eq_some_iff.1 hj).1
  have hlj : l[j] = (k, u) := (List.getElem?_eq_some_iff.1 hj).2
  have hmem : (k, u) ∈ m := hp.mem_iff.1 (by rw [← hlj]; exact List.getElem_mem hjl)
  have e1 : l.Perm ((k, u) :: l.eraseIdx j) := by
    rw [← hlj]; exact (cons_erase_perm l j hjl).symm
  have e2 : (l.set j (k, x)).Perm ((k, x) :: l.eraseIdx j) := by
    have hjs : j < (l.set j (k, x)).length := by simpa using hjl
    have := (cons_erase_perm _ j hjs).symm
    rwa [List.getElem_set_self, List.eraseIdx_set_eq] at this
  have key : ∀ m : SecMap, Rising m → (k, u) ∈ m → ∃ r, m.Perm ((k, u) :: r) ∧ (mput m k x).Perm ((k, x) :: r) := by
    intro m
    induction m with
    | nil => intro _ h; cases h
    | cons z m ih =>
      obtain ⟨a, b⟩ := z
      intro hm h
      have hh := hm.head
      rcases List.mem_cons.1 h with h | h
      · injection h with h1 h2
        subst h1 h2
        exact ⟨m, List.Perm.refl _, by unfold mput; rw [if_neg (Nat.lt_irrefl _), if_pos rfl]⟩
      · obtain ⟨r, p1, p2⟩ := ih hm.tail h
        have hlt := hh _ h
        refine ⟨(a, b) :: r, (List.Perm.cons _ p1).trans (List.Perm.swap _ _ _), ?_⟩
        unfold mput
        rw [if_neg (by omega), if_neg (by simp only at hlt; omega)]
        exact (List.Perm.cons _ p2).trans (List.Perm.swap _ _ _)
  obtain ⟨r, p1, p2⟩ := key m hm hmem
  have : (l.eraseIdx j).Perm r := (List.perm_cons (k, u)).1 (e1.symm.trans (hp.trans p1))
  exact e2.trans ((List.Perm.cons _ this).trans p2.symm)
theorem push_perm {m l : SecMap} (hm : Rising m) (hp : l.Perm m) {k : Nat} (x : List UInt8) (h : mget m k = none) : (l ++ [(k, x)]).Perm (mput m k x) := by
  have key : ∀ m : SecMap, Rising m → mget m k = none → (mput m k x).Perm ((k, x) :: m) := by
    intro m
    induction m with
    | nil => intro _ _; exact List.Perm.refl _
    | cons z m ih =>
      obtain ⟨a, b⟩ := z
      intro hm h
      have hka : k ≠ a := by
        intro e; rw [mget, if_pos e] at h; cases h
      rw [mget, if_neg hka] at h
      unfold mput
      by_cases h1 : k < a
      · rw [if_pos h1]
      · rw [if_neg h1, if_neg hka]
        exact (List.Perm.cons _ (ih hm.tail h)).trans (List.Perm.swap _ _ _)
  exact (List.perm_append_comm).trans (((List.Perm.cons _ hp)).trans (key m hm h).symm)

/-- A store into a map. -/
theorem MapSetS.ok {w : World} {g : Nat} {m : SecMap} (h : MapAt w g m) (k : Nat) (x : List UInt8) :
    ∃ o, (MapSetS 75 (.map (some g)) (.int .i64 (k : Int)) (secV x)).run Try.prog w = .ok () (objSet w g o) ∧ MapAt (objSet w g o) g (mput m k x) := by
  have hr := h.rising
  obtain ⟨es, clock, l, h1, h2, h3, h4, ⟨f1, f2, f3⟩ | ⟨j, e, v, f1, f2, f3, f4, f5, f6⟩⟩ := h.find k
  · refine ⟨.map (es.push { key := .int .i64 (k : Int), val := secV x, born := clock }) (clock + 1), ?_, ?_⟩
    · unfold MapSetS
      simp [Instr.mapUpdate, run_underlying Try.underlying75, MapKept.run_getObj_map h1, run_checkKey Try.underlying3 (k := .int .i64 (k : Int)) rfl, run_findKey Try.underlying3 f1, run_setObj_map _ h1, Result.andThen, objSet]
    · exact ⟨_, _, (heap_set h1).1, stamped_push h2 f3, mput_rising hr _ _, l ++ [(k, x)], push_perm hr h3 x f2, by simp [h4, entOf, encE]⟩
  · have hj : es[j]? = some e := by simpa using f2
    refine ⟨.map (es.modify j fun e => { e with key := .int .i64 (k : Int), val := secV x }) clock, ?_, ?_⟩
    · unfold MapSetS
      simp [Instr.mapUpdate, run_underlying Try.underlying75, MapKept.run_getObj_map h1, run_checkKey Try.underlying3 (k := .int .i64 (k : Int)) rfl, run_findKey Try.underlying3 f1, run_setObj_map _ h1, Result.andThen, objSet, hj, f3, run_keyThatStays (d := .int .i64) (k := .int .i64 (k : Int)) rfl]
    · have hkey : ∀ e', es[j]? = some e' → ({ e' with key := .int .i64 (k : Int), val := secV x } : MapEntry).key = e'.key := fun e' he' => by rw [hj] at he'; cases he'; exact f3.symm
      refine ⟨_, _, (heap_set h1).1, stamped_modify h2 _ _ (fun _ _ => rfl) (fun e' _ he' => hkey e' he'), mput_rising hr _ _, l.set j (k, x), set_perm hr h3 x f6, ?_⟩
      apply List.ext_getElem?
      intro i
      have hi : (es.toList.map entOf)[i]? = (l.map encE)[i]? := by rw [h4]
      simp only [List.getElem?_map] at hi
      simp only [List.getElem?_map, Array.getElem?_toList, Array.getElem?_modify, List.getElem?_set]
      by_cases hij : j = i
      · subst hij
        have hjl : j < l.length := (List.getElem?_eq_some_iff.1 f6).1
        simp [hj, hjl, entOf, encE]
      · simp only [if_neg hij]
        simpa using hi
theorem ClearS.ok {w : World} {g : Nat} {m : SecMap} (h : MapAt w g m) :
    ∃ o, (ClearS #[75] 0 #[.map (some g)]).run Try.prog w = .ok (.tuple #[]) (objSet w g o) ∧ MapAt (objSet w g o) g [] := by
  obtain ⟨es, clock, h1, h2, h3, l, h4, h5⟩ := h
  refine ⟨.map #[] clock, ?_, _, _, (heap_set h1).1, stamped_empty _, List.Pairwise.nil, [], List.Perm.refl _, rfl⟩
  unfold ClearS
  simp [Builtin.clear_, run_underlying Try.underlying75, MapKept.run_getObj_map h1, run_setObj_map _ h1, Result.andThen, objSet]
def LenS (ts : Array TypeId) (t : TypeId) (xs : Array Value) : Sem Value := Builtin.len_ ts t xs
theorem len_map_mark (t : TypeId) (x : Value) : Builtin.len_ #[75] t #[x] = LenS #[75] t #[x] := rfl
theorem LenS.ok {w : World} {g : Nat} {m : SecMap} (h : MapAt w g m) : (LenS #[75] 3 #[.map (some g)]).run Try.prog w = .ok (.int .i64 (m.length : Int)) w := by
  obtain ⟨es, clock, h1, h2, h3, l, h4, h5⟩ := h
  have : es.size = m.length := by
    have h6 : es.toList.length = l.length := by have := congrArg List.length h5; simpa using this
    rw [← h4.length_eq, ← h6, Array.length_toList]
  unfold LenS
  simp [Builtin.len_, run_underlying Try.underlying75, MapKept.run_getObj_map h1, Result.andThen, this, goInt]
end Go.Proofs.Ytmhgahkainmbkaa
namespace Go.Proofs.Ytmhgahkainmbkaa
open Go.RowKit
set_option linter.unusedVariables false
set_option linter.unusedSimpArgs false

structure LogM where
  base : Nat
  n : Nat
  epoch : Nat
  used : Nat
  sum : Nat
  over : SecMap
  staged : SecMap
  dead : Bool

/-- A log that may be, on a disk of N sectors. -/
structure LogM.Ok (L : LogM) (N : Nat) : Prop where
  most : N ≤ 1024
  n4 : 4 ≤ L.n
  n255 : L.n ≤ 255
  fits : L.base + L.n ≤ N
  epoch : L.epoch < 18446744073709551616
  used : L.used < L.n
  sum : L.sum < 18446744073709551616

def homeB (N : Nat) (L : LogM) (i : Int) : Bool := decide (0 ≤ i ∧ i < N ∧ (i < L.base ∨ (L.base : Int) + L.n ≤ i))
def HomeMap (N : Nat) (L : LogM) (m : SecMap) : Prop := ∀ x ∈ m, homeB N L (x.1 : Int) = true ∧ x.2.length = 128

/-- How it lies: its head in block p, its maps in blocks go and gs, over the disk at pd. -/
structure LogAt (w : World) (p go gs pd N : Nat) (L : LogM) : Prop where
  ok : L.Ok N
  head : Blk w p 77 #[.pointer (some ⟨pd, 0, none⟩), .int .i64 (L.base : Int), .int .i64 (L.n : Int), .int .u64 (L.epoch : Int), .int .i64 (L.used : Int), .int .u64 (L.sum : Int), .map (some go), .map (some gs), .bool L.dead]
  over : MapAt w go L.over
  staged : MapAt w gs L.staged
  apart : go ≠ gs
  overOk : HomeMap N L L.over
  stagedOk : HomeMap N L L.staged

def Foot (p go gs : Nat) : Nat → Prop := fun k => k = p ∨ k = go ∨ k = gs
section
variable {w w' : World} {p go gs pd N : Nat} {L : LogM} {F G : Nat → Prop}
theorem LogAt.step (h : LogAt w p go gs pd N L) (s : Step w w' F G) (hn : ∀ k, Foot p go gs k → ¬ F k) : LogAt w' p go gs pd N L :=
  ⟨h.ok, h.head.step s (hn p (.inl rfl)), h.over.step s (hn go (.inr (.inl rfl))), h.staged.step s (hn gs (.inr (.inr rfl))), h.apart, h.overOk, h.stagedOk⟩
theorem LogAt.free (h : LogAt w p go gs pd N L) (hb : Below w.heap.size w w') : LogAt w' p go gs pd N L :=
  h.step (Step.of_below hb (fun _ => False)) (fun _ _ h => h)
theorem LogAt.lt (h : LogAt w p go gs pd N L) : ∀ k, Foot p go gs k → k < w.heap.size := by
  rintro k (rfl | rfl | rfl)
  · exact h.head.lt
  · exact h.over.lt
  · exact h.staged.lt
theorem LogAt.p_go (h : LogAt w p go gs pd N L) : go ≠ p := h.over.far h.head
theorem LogAt.p_gs (h : LogAt w p go gs pd N L) : gs ≠ p := h.staged.far h.head
theorem log_cells {a0 a1 a2 a3 a4 a5 a6 a7 a8 : Value} {t : TypeId} (h : Blk w p t #[a0, a1, a2, a3, a4, a5, a6, a7, a8]) :
    w.cell? ⟨p, 0, none⟩ = some a0 ∧ w.cell? ⟨p, 1, none⟩ = some a1 ∧ w.cell? ⟨p, 2, none⟩ = some a2 ∧ w.cell? ⟨p, 3, none⟩ = some a3 ∧ w.cell? ⟨p, 4, none⟩ = some a4 ∧ w.cell? ⟨p, 5, none⟩ = some a5 ∧ w.cell? ⟨p, 6, none⟩ = some a6 ∧ w.cell? ⟨p, 7, none⟩ = some a7 ∧ w.cell? ⟨p, 8, none⟩ = some a8 ∧
      (∀ i, w.frozen? ⟨p, i, none⟩ = false) :=
  ⟨h.cell 0, h.cell 1, h.cell 2, h.cell 3, h.cell 4, h.cell 5, h.cell 6, h.cell 7, h.cell 8, h.frozen⟩

theorem llen_any (h : LogAt w p go gs pd N L) :
    Calls Try.prog 40 #[.pointer (some ⟨p, 0, none⟩)] w fun e w' => e = .returned (.int .i64 ((L.n - 1 : Nat) : Int)) ∧ w = w' := by
  obtain ⟨c0, c1, c2, c3, c4, c5, c6, c7, c8, fz⟩ := log_cells h.head
  have h4 := h.ok.n4
  have h5 := h.ok.n255
  have e : ((L.n - 1 : Nat) : Int) = (L.n : Int) - 1 := by omega
  rw [e]
  clear h e
  go_enter Try.func40, Try.ntmps40
  go_wp2
  go_ret
  exact ⟨rfl, rfl⟩
section
attribute [local go_sem ↓] len_map_mark clear_mark
/-- The step of a map that is written. -/
theorem LogAt.putStaged (h : LogAt w p go gs pd N L) {o : Obj} {m : SecMap} (hm : MapAt (objSet w gs o) gs m) (hk : HomeMap N L m) : LogAt (objSet w gs o) p go gs pd N { L with staged := m } :=
  ⟨⟨h.ok.most, h.ok.n4, h.ok.n255, h.ok.fits, h.ok.epoch, h.ok.used, h.ok.sum⟩, (objSet_far (Ne.symm h.p_gs) o).trans h.head, h.over.kept (objSet_far h.apart o), hm, h.apart, h.overOk, hk⟩
theorem LogAt.putOver (h : LogAt w p go gs pd N L) {o : Obj} {m : SecMap} (hm : MapAt (objSet w go o) go m) (hk : HomeMap N L m) : LogAt (objSet w go o) p go gs pd N { L with over := m } :=
  ⟨⟨h.ok.most, h.ok.n4, h.ok.n255, h.ok.fits, h.ok.epoch, h.ok.used, h.ok.sum⟩, (objSet_far (Ne.symm h.p_go) o).trans h.head, hm, h.staged.kept (objSet_far (Ne.symm h.apart) o), h.apart, hk, h.stagedOk⟩
theorem drop_any (h : LogAt w p go gs pd N L) :
    Calls Try.prog 16 #[.pointer (some ⟨p, 0, none⟩)] w fun e w' => e = .returned (.tuple #[]) ∧ LogAt w' p go gs pd N { L with staged := [] } ∧ Step w w' (Foot p go gs) (Foot p go gs) := by
  obtain ⟨c0, c1, c2, c3, c4, c5, c6, c7, c8, fz⟩ := log_cells h.head
  obtain ⟨o, hr, hm⟩ := ClearS.ok h.staged
  have H := Lib.hid (h.putStaged hm (fun x hx => by cases hx))
  have HS := Lib.hid ((Step.refl w (Foot p go gs)).objSet (g := gs) (.inl (.inr (.inr rfl))) o)
  clear h hm
  generalize objSet w gs o = W at *
  go_enter Try.func16, Try.ntmps16
  go_wp2
  go_end0
  exact ⟨rfl, H.out, HS.out⟩
end
theorem dLen {Fd : Nat → Prop} {D : DiskM} (h : Disk w Fd pd N D) : Calls Try.prog 69 #[.pointer (some ⟨pd, 0, none⟩)] w fun e w' => e = .returned (.int .i64 (N : Int)) ∧ w' = w := by
  obtain ⟨_, _, _, _, hd⟩ := h
  exact (len_any hd).mono fun _ _ h => ⟨h.1, h.2.symm⟩
theorem below_drewN (B : Nat) (w : World) (n : Nat) : Below B w (w.drewN n) := ⟨rfl, rfl, rfl, Nat.le_refl _, fun _ _ => rfl⟩
set_option maxHeartbeats 1000000 in
/-- home: is a sector one? -/
theorem home_any {Fd : Nat → Prop} {D : DiskM} (h : LogAt w p go gs pd N L) (hd : Disk w Fd pd N D) (i : Int) (hi : -9223372036854775808 ≤ i ∧ i ≤ 9223372036854775807) :
    Calls Try.prog 36 #[.pointer (some ⟨p, 0, none⟩), .int .i64 i] w fun e w' => e = .returned (.bool (homeB N L i)) ∧ ∃ n, w' = w.drewN n := by
  obtain ⟨c0, c1, c2, c3, c4, c5, c6, c7, c8, fz⟩ := log_cells h.head
  have hN := h.ok.most
  have hn := h.ok.n255
  have hf := h.ok.fits
  have HL := Lib.hid (fun n : Nat => dLen (hd.free (below_drewN _ w n)))
  obtain ⟨hi1, hi2⟩ := hi
  have hs : IntKind.i64.wrap ((L.base : Int) + (L.n : Int)) = (L.base : Int) + (L.n : Int) := IntWalk.i64_in _ (by omega)
  clear h hd
  by_cases h0 : 0 ≤ i
  · have d0 : decide (0 ≤ i) = true := decide_eq_true h0
    by_cases h1 : i < (N : Int)
    · have d1 : decide (i < (N : Int)) = true := decide_eq_true h1
      by_cases h2 : i < (L.base : Int)
      · have d2 : decide (i < (L.base : Int)) = true := decide_eq_true h2
        rw [show homeB N L i = true from by unfold homeB; rw [decide_eq_true_eq]; omega]
        clear hi1 hi2 hN hn hf
        go_enter Try.func36, Try.ntmps36
        go_wp2_with fail
        go_quiet ((go_at_call 69; exact Calls.quiet_of_same (HL.out _)))
        go_wp2
        go_ret
        exact ⟨rfl, _, rfl⟩
      · have d2 : decide (i < (L.base : Int)) = false := decide_eq_false h2
        by_cases h3 : (L.base : Int) + (L.n : Int) ≤ i
        · have d3 : decide ((L.base : Int) + (L.n : Int) ≤ i) = true := decide_eq_true h3
          rw [show homeB N L i = true from by unfold homeB; rw [decide_eq_true_eq]; omega]
          clear hi1 hi2 hN hn hf
          go_enter Try.func36, Try.ntmps36
          go_wp2_with fail
          go_quiet ((go_at_call 69; exact Calls.quiet_of_same (HL.out _)))
          go_wp2
          go_ret
          exact ⟨rfl, _, rfl⟩
        · have d3 : decide ((L.base : Int) + (L.n : Int) ≤ i) = false := decide_eq_false h3
          rw [show homeB N L i = false from by unfold homeB; rw [decide_eq_false_iff_not]; omega]
          clear hi1 hi2 hN hn hf
          go_enter Try.func36, Try.ntmps36
          go_wp2_with fail
          go_quiet ((go_at_call 69; exact Calls.quiet_of_same (HL.out _)))
          go_wp2
          go_ret
          exact ⟨rfl, _, rfl⟩
    · have d1 : decide (i < (N : Int)) = false := decide_eq_false h1
      rw [show homeB N L i = false from by unfold homeB; rw [decide_eq_false_iff_not]; omega]
      clear hi1 hi2 hN hn hf
      go_enter Try.func36, Try.ntmps36
      go_wp2_with fail
      go_quiet ((go_at_call 69; exact Calls.quiet_of_same (HL.out _)))
      go_wp2
      go_ret
      exact ⟨rfl, _, rfl⟩
  · have d0 : decide (0 ≤ i) = false := decide_eq_false h0
    rw [show homeB N L i = false from by unfold homeB; rw [decide_eq_false_iff_not]; omega]
    clear hi1 hi2 hN hn hf
    go_enter Try.func36, Try.ntmps36
    go_wp2_with fail
    go_quiet (fail)
    go_wp2
    go_ret
    exact ⟨rfl, _, rfl⟩
theorem LogAt.setDead (h : LogAt w p go gs pd N L) (b : Bool) : LogAt (w.setCell ⟨p, 8, none⟩ (.bool b)) p go gs pd N { L with dead := b } :=
  ⟨⟨h.ok.most, h.ok.n4, h.ok.n255, h.ok.fits, h.ok.epoch, h.ok.used, h.ok.sum⟩, h.head.set_ 8 _, h.over.kept (heap_set_far _ _ _ _ _ h.p_go), h.staged.kept (heap_set_far _ _ _ _ _ h.p_gs), h.apart, h.overOk, h.stagedOk⟩
set_option maxHeartbeats 1000000 in
theorem ended_any (h : LogAt w p go gs pd N L) (e : Int) :
    Calls Try.prog 38 #[.pointer (some ⟨p, 0, none⟩), .int .i64 e] w fun e' w' => e' = .returned (.int .i64 e) ∧ LogAt w' p go gs pd N { L with dead := L.dead || e == 41 || e == 40 } ∧ Step w w' (Foot p go gs) (Foot p go gs) := by
  obtain ⟨c0, c1, c2, c3, c4, c5, c6, c7, c8, fz⟩ := log_cells h.head
  have H := Lib.hid (fun b => h.setDead b)
  have HS := Lib.hid (fun b : Bool => (Step.refl w (Foot p go gs)).setCell (p := ⟨p, 8, none⟩) (.inl (.inl rfl)) (.bool b))
  clear h
  obtain ⟨b, hb⟩ : ∃ b, b = L.dead := ⟨_, rfl⟩
  rw [← hb] at c8 ⊢
  clear hb
  cases b
  · by_cases h1 : e = 41
    · subst h1
      go_enter Try.func38, Try.ntmps38
      go_wp2
      go_ret
      exact ⟨rfl, H.out _, HS.out _⟩
    · have d1 : (e == 41) = false := by simpa using h1
      go_enter Try.func38, Try.ntmps38
      go_wp2
      go_ret
      rw [d1]
      exact ⟨rfl, H.out _, HS.out _⟩
  · go_enter Try.func38, Try.ntmps38
    go_wp2
    go_ret
    exact ⟨rfl, H.out _, HS.out _⟩
theorem cost_any (k : Nat) (hk : k ≤ 1000000) (w : World) :
    Calls Try.prog 39 #[.int .i64 (k : Int)] w fun e w' => e = .returned (.int .i64 ((k + (k + 59) / 60 : Nat) : Int)) ∧ w = w' := by
  have e : ((k + (k + 59) / 60 : Nat) : Int) = (k : Int) + ((k : Int) + 60 - 1) / 60 := by omega
  rw [e]
  clear e
  go_enter Try.func39, Try.ntmps39
  go_wp2
  go_ret
  exact ⟨rfl, rfl⟩
end
end Go.Proofs.Ytmhgahkainmbkaa
namespace Go.Proofs.Ytmhgahkainmbkaa
open Go.RowKit
set_option linter.unusedVariables false
set_option linter.unusedSimpArgs false

/-- What a home is by the log: staged, committed, or as the disk has it. -/
def LogM.val (L : LogM) (D : DiskM) (k : Nat) : List UInt8 := (mget L.staged k).getD ((mget L.over k).getD (D.now.getD k []))
section
variable {w w' : World} {p go gs pd N : Nat} {L : LogM} {F G : Nat → Prop} {D : DiskM}
theorem homeB_nat {i : Int} (h : homeB N L i = true) : ∃ k : Nat, i = (k : Int) ∧ k < N := by
  unfold homeB at h
  rw [decide_eq_true_eq] at h
  exact ⟨i.toNat, by omega, by omega⟩
theorem lread_dead (h : LogAt w p go gs pd N L) (hd : L.dead = true) (i : Int) :
    Calls Try.prog 13 #[.pointer (some ⟨p, 0, none⟩), .int .i64 i] w fun e w' => e = .returned (.tuple #[.slice none 0 0, .int .i64 40]) ∧ w = w' := by
  obtain ⟨c0, c1, c2, c3, c4, c5, c6, c7, c8, fz⟩ := log_cells h.head
  rw [hd] at c8
  clear h hd
  go_enter Try.func13, Try.ntmps13
  go_wp2
  go_ret2
  exact ⟨rfl, rfl⟩
theorem lread_out (h : LogAt w p go gs pd N L) (hd : L.dead = false) (hk : Disk w F pd N D) (i : Int) (hi : -9223372036854775808 ≤ i ∧ i ≤ 9223372036854775807) (ho : homeB N L i = false) :
    Calls Try.prog 13 #[.pointer (some ⟨p, 0, none⟩), .int .i64 i] w fun e w' => e = .returned (.tuple #[.slice none 0 0, .int .i64 43]) ∧ ∃ n, w' = w.drewN n := by
  obtain ⟨c0, c1, c2, c3, c4, c5, c6, c7, c8, fz⟩ := log_cells h.head
  rw [hd] at c8
  have hH := home_any h hk i hi
  rw [ho] at hH
  have HH := Lib.hid hH
  clear h hd hk ho hH
  go_enter Try.func13, Try.ntmps13
  go_wp2_with fail
  refine HH.out.mono ?_
  rintro e w1 ⟨rfl, n, rfl⟩
  go_wp2
  go_ret2
  exact ⟨rfl, _, rfl⟩
set_option maxHeartbeats 1000000 in
theorem lread_off (h : LogAt w p go gs pd N L) (hd : L.dead = false) (hk : Disk w F pd N D) (i : Int) (hi : -9223372036854775808 ≤ i ∧ i ≤ 9223372036854775807) (ho : homeB N L i = true) (hu : D.up = false) :
    Calls Try.prog 13 #[.pointer (some ⟨p, 0, none⟩), .int .i64 i] w fun e w' => e = .returned (.tuple #[.slice none 0 0, .int .i64 40]) ∧ LogAt w' p go gs pd N { L with dead := true } ∧ Step w w' (Foot p go gs) (Foot p go gs) := by
  obtain ⟨c0, c1, c2, c3, c4, c5, c6, c7, c8, fz⟩ := log_cells h.head
  rw [hd] at c8
  have hH := home_any h hk i hi
  rw [ho] at hH
  have hM : D.mayE N i = 40 := by unfold DiskM.mayE; rw [if_pos hu]
  have hR := fun n : Nat => readE_any (hk.free (below_drewN _ w n)).2.choose_spec.choose_spec.choose_spec i (by rw [hM]; decide)
  rw [hM] at hR
  have hE := fun n : Nat => ended_any (h.free (below_drewN _ w n)) 40
  have HH := Lib.hid hH
  have HR := Lib.hid hR
  have HE := Lib.hid hE
  have HB := Lib.hid (fun n : Nat => below_drewN w.heap.size w n)
  clear h hd hk ho hH hM hR hE
  go_enter Try.func13, Try.ntmps13
  go_wp2_with fail
  refine HH.out.mono ?_
  rintro e w1 ⟨rfl, n, rfl⟩
  go_wp2_with fail
  refine (HR.out n).mono ?_
  rintro e w2 ⟨rfl, rfl⟩
  go_wp2_with fail
  refine (HE.out n).mono ?_
  rintro e w3 ⟨rfl, hL, hS⟩
  have HL := Lib.hid hL
  clear hL
  go_wp2_with fail
  go_ret2
  refine ⟨rfl, ?_, (Step.of_below (HB.out n) (Foot p go gs)).trans hS⟩
  have := HL.out
  simpa using this

section
attribute [local go_sem ↓] load_wsector_mark store_wsector_mark alloc_wsector_mark appendS_mark look_mark
attribute [local go_sem] alloc_wsector
theorem own_lower {w : World} {b b' : Nat} {e : TypeId} {size n : Nat} {v : Value} {xs : List Value} (h : w.ownsRow b e size v n xs) (hb : b' ≤ b) : w.ownsRow b' e size v n xs :=
  ⟨h.1, h.2.imp id (fun ⟨g, cap, cur, e, hb2, r⟩ => ⟨g, cap, cur, e, Nat.le_trans hb hb2, r⟩)⟩
set_option maxRecDepth 100000 in
set_option maxHeartbeats 2000000 in
theorem lread_own (h : LogAt w p go gs pd N L) (hd : L.dead = false) (hk : Disk w F pd N D) (k : Nat) (ho : homeB N L (k : Int) = true) (hu : D.up = true) :
    Calls Try.prog 13 #[.pointer (some ⟨p, 0, none⟩), .int .i64 (k : Int)] w fun e w' => ∃ A c, e = .returned (.tuple #[.slice A 128 c, .int .i64 0]) ∧ Below w.heap.size w w' ∧ w'.ownsRow w.heap.size 5 1 (.slice A 128 c) 128 ((L.val D k).map bv) := by
  have hkN : k < N := by unfold homeB at ho; rw [decide_eq_true_eq] at ho; omega
  have hNm := h.ok.most
  have hH := home_any h hk (k : Int) (by omega)
  rw [ho] at hH
  have hM : D.mayE N (k : Int) = 0 := by unfold DiskM.mayE; rw [if_neg (by simp [hu]), if_pos (by omega)]
  have hnl : (D.now.getD k []).length = 128 := by
    have hj : k < D.now.length := by rw [hk.ok.nowLen]; exact hkN
    rw [List.getD_eq_getElem?_getD, List.getElem?_eq_getElem hj]
    exact hk.ok.now _ (List.getElem_mem hj)
  have hR := fun n : Nat => read_any (hk.free (below_drewN _ w n)).2.choose_spec.choose_spec.choose_spec (k : Int) hM
  have hov : ∀ v, mget L.over k = some v → v.length = 128 := fun v hv => (h.overOk _ ((mget_some h.over.rising).1 hv)).2
  have hsv : ∀ v, mget L.staged k = some v → v.length = 128 := fun v hv => (h.stagedOk _ ((mget_some h.staged.rising).1 hv)).2
  obtain ⟨c0, c1, c2, c3, c4, c5, c6, c7, c8, fz⟩ := log_cells h.head
  rw [hd] at c8
  obtain ⟨x, hx⟩ : ∃ x, x = lookV L.over k := ⟨_, rfl⟩
  obtain ⟨y, hy⟩ : ∃ y, y = lookV L.staged k := ⟨_, rfl⟩
  obtain ⟨b1, hb1⟩ : ∃ b, b = (mget L.over k).isSome := ⟨_, rfl⟩
  obtain ⟨b2, hb2⟩ : ∃ b, b = (mget L.staged k).isSome := ⟨_, rfl⟩
  have hxl : x.length = 128 := by
    rw [hx]; unfold lookV
    cases e : mget L.over k with
    | none => rfl
    | some v => exact hov v e
  have hyl : y.length = 128 := by
    rw [hy]; unfold lookV
    cases e : mget L.staged k with
    | none => rfl
    | some v => exact hsv v e
  have hval : L.val D k = if b2 then y else if b1 then x else D.now.getD k [] := by
    rw [hb1, hb2, hx, hy]; unfold LogM.val lookV
    cases e : mget L.staged k with
    | none => cases e' : mget L.over k <;> simp
    | some v => simp
  rw [hval]
  have hst : ∀ z : List UInt8, z.length = 128 → ∀ W : World, (StoreS 80 (.pointer (some ⟨W.heap.size, 0, none⟩)) (secV z)).run Try.prog (W.alloc (.cells (zbytes 128) 80)) = .ok () (W.alloc (.cells (z.map bv).toArray 80)) := fun z hz W =>
    StoreS.new (by simp only [List.size_toArray, List.length_map, hz]; exact i_wsector) (by simp [zbytes_size, hz]) (fun v hv => bvs_one z v (by simpa using hv)) W
  have hst1 := hst x hxl
  have hst2 := hst y hyl
  have HLG := Lib.hid h
  have HD := Lib.hid hd
  have HH := Lib.hid hH
  have HR := Lib.hid hR
  have HN := Lib.hid hnl
  have HX := Lib.hid (And.intro hx (And.intro hy (And.intro hb1 (And.intro hb2 (And.intro hxl hyl)))))
  have HLT := Lib.hid h.lt
  clear h hd hk ho hH hM hR hov hsv hval hst hx hy hb1 hb2 hxl hyl hnl
  go_enter Try.func13, Try.ntmps13
  go_wp2_with fail
  refine HH.out.mono ?_
  rintro e w0 ⟨rfl, n, rfl⟩
  go_wp2_with fail
  refine (HR.out n).mono ?_
  rintro e w1 ⟨g, rfl, hg, hB, hb⟩
  have hbw : Below w.heap.size w w1 := (below_drewN _ w n).trans hb
  rw [Int.toNat_natCast] at hB
  have hgl := hB.lt
  have hL1 := HLG.out.free hbw
  obtain ⟨c0, c1, c2, c3, c4, c5, c6, c7, c8, fz⟩ := log_cells hL1.head
  obtain ⟨ex, ey, eb1, eb2, exl, eyl⟩ := HX.out
  rw [HD.out] at c8
  obtain ⟨W2, hW2⟩ : ∃ W2, W2 = w1.alloc (.cells (x.map bv).toArray 80) := ⟨_, rfl⟩
  obtain ⟨W3, hW3⟩ : ∃ W3, W3 = W2.alloc (.cells (y.map bv).toArray 80) := ⟨_, rfl⟩
  have hz2 : W2.heap.size = w1.heap.size + 1 := by rw [hW2]; simp
  have hz3 : W3.heap.size = w1.heap.size + 2 := by rw [hW3]; simp [hz2]
  have hb2 : Below w.heap.size w W2 := by rw [hW2]; exact hbw.alloc hbw.size _
  have hb3 : Below w.heap.size w W3 := by rw [hW3]; exact hb2.alloc hb2.size _
  have hL2 := HLG.out.free hb2
  have hk1 := LookS.ok hL1.over k
  have hk2 := LookS.ok hL2.staged k
  rw [← ex, ← eb1] at hk1
  rw [← ey, ← eb2] at hk2
  have hBx : Blk W3 w1.heap.size 80 (x.map bv).toArray := by rw [hW3]; refine Blk.alloc ?_ _; rw [hW2]; exact Blk.new _ _ _
  have hBy : Blk W3 W2.heap.size 80 (y.map bv).toArray := by rw [hW3]; exact Blk.new _ _ _
  have hBg : Blk W3 g 113 ((D.now.getD k []).map bv).toArray := by rw [hW3, hW2]; exact (hB.alloc _).alloc _
  have happ : ∀ (gb : Nat) (t : TypeId) (z : List UInt8), Blk W3 gb t (z.map bv).toArray → z.length = 128 → ∃ A c w', (AppendS #[39, 39] 39 #[.slice (some ⟨W3.heap.size, 0, none⟩) 0 0, .slice (some ⟨gb, 0, none⟩) 128 128]).run Try.prog (W3.alloc (.cells #[] 5)) = .ok (.slice A 128 c) w' ∧
      Below W3.heap.size W3 w' ∧ w'.ownsRow W3.heap.size 5 1 (.slice A 128 c) 128 (z.map bv) := by
    intro gb t z hz hzl
    have hS := hz.slc (sz := 1) (n := 128) (c := 128) (by simp [hzl]) (Nat.le_refl _) (by decide)
    rw [Nat.mul_one, List.take_of_length_le (by simp [hzl])] at hS
    obtain ⟨A, c, w', hr, hown, hg, hat⟩ := append_bytes (W3.alloc (.cells #[] 5)) W3.heap.size (.slice (some ⟨W3.heap.size, 0, none⟩) 0 0) 0 [] (World.ownsRow_made W3 #[] 0 (Nat.le_refl _) (by decide) rfl)
      (gb + 1) (some ⟨gb, 0, none⟩) 128 128 z (hS.below ((Below.refl (gb + 1) W3).alloc hz.lt _)) (by decide) (by simp)
    rw [Nat.zero_add] at hr hown
    rw [List.nil_append] at hown
    exact ⟨A, c, w', hr, ((Below.refl _ W3).alloc (Nat.le_refl _) _).grown hg (by simp) (by simp [Value.ownBlock]), hown⟩
  have key : ∀ (gb : Nat) (t : TypeId) (z : List UInt8), Blk W3 gb t (z.map bv).toArray → z.length = 128 → ∃ A c w', (AppendS #[39, 39] 39 #[.slice (some ⟨w1.heap.size + 1 + 1, 0, none⟩) 0 0, .slice (some ⟨gb, 0, none⟩) 128 128]).run Try.prog (((w1.alloc (.cells (x.map bv).toArray 80)).alloc (.cells (y.map bv).toArray 80)).alloc (.cells #[] 5)) = .ok (.slice A 128 c) w' ∧
      Below w.heap.size w w' ∧ w'.ownsRow w.heap.size 5 1 (.slice A 128 c) 128 (z.map bv) := by
    intro gb t z hz hzl
    obtain ⟨A, c, w', hr, h1, h2⟩ := happ gb t z hz hzl
    rw [hz3, hW3, hW2] at hr
    have := hb3.size
    exact ⟨A, c, w', hr, hb3.trans (h1.mono hb3.size), own_lower h2 (by omega)⟩
  rw [hW2] at hk2
  have hca := cells_alloc hL1.head.lt
  have hst3 := hst2 (w1.alloc (.cells (x.map bv).toArray 80))
  rw [World.size_alloc] at hst3
  cases b2
  · cases b1
    · obtain ⟨A, c, w5, hr, q1, q2⟩ := key g _ _ hBg HN.out
      have HQ := Lib.hid (And.intro q1 q2)
      clear hL1 ex ey eb1 eb2 exl eyl hW2 hW3 hz2 hz3 hb2 hb3 hL2 hBx hBy hBg happ key hB hb hbw hg q1 q2
      go_wp2_with fail
      go_ret2
      exact ⟨A, c, rfl, HQ.out.1, HQ.out.2⟩
    · obtain ⟨A, c, w5, hr, q1, q2⟩ := key _ _ _ hBx exl
      have HQ := Lib.hid (And.intro q1 q2)
      clear hL1 ex ey eb1 eb2 exl eyl hW2 hW3 hz2 hz3 hb2 hb3 hL2 hBx hBy hBg happ key hB hb hbw hg q1 q2
      go_wp2_with fail
      go_ret2
      exact ⟨A, c, rfl, HQ.out.1, HQ.out.2⟩
  · obtain ⟨A, c, w5, hr, q1, q2⟩ := key _ _ _ hBy eyl
    rw [hz2] at hr
    have HQ := Lib.hid (And.intro q1 q2)
    clear hL1 ex ey eb1 eb2 exl eyl hW2 hW3 hz2 hz3 hb2 hb3 hL2 hBx hBy hBg happ key hB hb hbw hg q1 q2
    cases b1
    · go_wp2_with fail
      go_ret2
      exact ⟨A, c, rfl, HQ.out.1, HQ.out.2⟩
    · go_wp2_with fail
      go_ret2
      exact ⟨A, c, rfl, HQ.out.1, HQ.out.2⟩
end
theorem lread_ok (h : LogAt w p go gs pd N L) (hd : L.dead = false) (hk : Disk w F pd N D) (k : Nat) (ho : homeB N L (k : Int) = true) (hu : D.up = true) :
    Calls Try.prog 13 #[.pointer (some ⟨p, 0, none⟩), .int .i64 (k : Int)] w fun e w' => ∃ A c, e = .returned (.tuple #[.slice A 128 c, .int .i64 0]) ∧ Below w.heap.size w w' ∧ Slc w' w'.heap.size 1 A 128 c ((L.val D k).map bv) ∧ ∀ a, A = some a → w.heap.size ≤ a.block :=
  (lread_own h hd hk k ho hu).mono fun e w' ⟨A, c, he, hb, ho⟩ => ⟨A, c, he, hb, own_slc_of ho, fun a ha => (ho.lt a.block (by rw [ha]; rfl)).1⟩
end
end Go.Proofs.Ytmhgahkainmbkaa
namespace Go.Proofs.Ytmhgahkainmbkaa
open Go.RowKit
set_option linter.unusedVariables false
set_option linter.unusedSimpArgs false

def costN (k : Nat) : Nat := k + (k + 59) / 60
theorem rising_length (N : Nat) : ∀ (m : SecMap) (a : Nat), Rising m → (∀ x ∈ m, a ≤ x.1 ∧ x.1 < N) → m.length ≤ N - a := by
  intro m
  induction m with
  | nil => intro a _ _; exact Nat.zero_le _
  | cons x m ih =>
    intro a hm h
    have h1 := h x List.mem_cons_self
    have h2 := ih (x.1 + 1) hm.tail (fun y hy => ⟨hm.head y hy, (h y (List.mem_cons_of_mem _ hy)).2⟩)
    simp only [List.length_cons]
    omega
theorem homeMap_length {N : Nat} {L : LogM} {m : SecMap} (hm : Rising m) (h : HomeMap N L m) : m.length ≤ N := by
  have := rising_length N m 0 hm (fun x hx => ⟨Nat.zero_le _, by have := (h x hx).1; unfold homeB at this; rw [decide_eq_true_eq] at this; omega⟩)
  omega
def LogM.stageE (L : LogM) (N : Nat) (i : Int) (n : Nat) : Int :=
  if L.dead = true then 40 else if homeB N L i = false then 43 else if n ≠ 128 then 44 else if mget L.staged i.toNat = none ∧ L.n - 1 < costN (L.staged.length + 1) then 45 else 0
def LogM.stage (L : LogM) (N : Nat) (i : Int) (n : Nat) (l : List UInt8) : LogM := if L.stageE N i n = 0 then { L with staged := mput L.staged i.toNat l } else L
theorem HomeMap.put {N : Nat} {L : LogM} {m : SecMap} (h : HomeMap N L m) {k : Nat} {x : List UInt8} (hk : homeB N L (k : Int) = true) (hx : x.length = 128) : HomeMap N L (mput m k x) := fun y hy => by
  rcases mput_keys hy with h1 | h1 | h1
  · rw [h1]; exact ⟨hk, hx⟩
  · exact h y h1.1
  · exact h y h1
section
variable {w w' : World} {p go gs pd N : Nat} {L : LogM} {F G : Nat → Prop} {D : DiskM}
theorem LoadS.of_range {P : Program} {w : World} {g o : Nat} {ty : TypeId} {cs : List Value} {d : TypeDesc} (hr : w.rangeAt g o cs) (hu : P.underlying ty = some d) (hd : d.isRow = true)
    (hi : (P.info? ty).map (·.size) = some cs.length) : (LoadS ty (.pointer (some ⟨g, o, none⟩))).run P w = .ok (.agg cs.toArray) w :=
  run_loadAt_mid (P := P) w g o ty cs d hr hu hd hi
theorem stage_dead (h : LogAt w p go gs pd N L) (hd : L.dead = true) (i : Int) (A : Option Addr) (n c : Nat) :
    Calls Try.prog 14 #[.pointer (some ⟨p, 0, none⟩), .int .i64 i, .slice A n c] w fun e w' => e = .returned (.int .i64 40) ∧ Below w.heap.size w w' := by
  obtain ⟨c0, c1, c2, c3, c4, c5, c6, c7, c8, fz⟩ := log_cells h.head
  rw [hd] at c8
  clear h hd
  go_enter Try.func14, Try.ntmps14
  go_wp2
  go_ret
  exact ⟨rfl, Below.refl _ _⟩
theorem stage_out (h : LogAt w p go gs pd N L) (hd : L.dead = false) (hk : Disk w F pd N D) (i : Int) (hi : -9223372036854775808 ≤ i ∧ i ≤ 9223372036854775807) (ho : homeB N L i = false) (A : Option Addr) (n c : Nat) :
    Calls Try.prog 14 #[.pointer (some ⟨p, 0, none⟩), .int .i64 i, .slice A n c] w fun e w' => e = .returned (.int .i64 43) ∧ Below w.heap.size w w' := by
  obtain ⟨c0, c1, c2, c3, c4, c5, c6, c7, c8, fz⟩ := log_cells h.head
  rw [hd] at c8
  have hH := home_any h hk i hi
  rw [ho] at hH
  have HH := Lib.hid hH
  clear h hd hk ho hH
  go_enter Try.func14, Try.ntmps14
  go_wp2_with fail
  refine HH.out.mono ?_
  rintro e w1 ⟨rfl, n, rfl⟩
  go_wp2
  go_ret
  exact ⟨rfl, below_drewN _ _ _⟩
theorem stage_size (h : LogAt w p go gs pd N L) (hd : L.dead = false) (hk : Disk w F pd N D) (i : Int) (hi : -9223372036854775808 ≤ i ∧ i ≤ 9223372036854775807) (ho : homeB N L i = true) (A : Option Addr) (n c : Nat) (hn : n ≠ 128) :
    Calls Try.prog 14 #[.pointer (some ⟨p, 0, none⟩), .int .i64 i, .slice A n c] w fun e w' => e = .returned (.int .i64 44) ∧ Below w.heap.size w w' := by
  obtain ⟨c0, c1, c2, c3, c4, c5, c6, c7, c8, fz⟩ := log_cells h.head
  rw [hd] at c8
  have hH := home_any h hk i hi
  rw [ho] at hH
  have HH := Lib.hid hH
  have hne : ((n : Int) != 128) = true := by simp; omega
  clear h hd hk ho hH hn
  go_enter Try.func14, Try.ntmps14
  go_wp2_with fail
  refine HH.out.mono ?_
  rintro e w1 ⟨rfl, n, rfl⟩
  go_wp2
  go_ret
  exact ⟨rfl, below_drewN _ _ _⟩
theorem arrayAt_sector (a : Option Addr) (c : Nat) (w : World) : Sem.run Try.prog (Instr.arrayAt 80 (.slice a 128 c)) w = .ok (.pointer a) w := by
  simp [Instr.arrayAt, run_underlying u_wsector, Result.andThen]
section
attribute [local go_sem ↓] load_wsector_mark store_wsector_mark alloc_wsector_mark look_mark mapSet_mark len_map_mark
attribute [local go_sem] alloc_wsector arrayAt_sector
set_option maxRecDepth 100000 in
set_option maxHeartbeats 2000000 in
theorem stage_in (h : LogAt w p go gs pd N L) (hd : L.dead = false) (hk : Disk w F pd N D) (k : Nat) (ho : homeB N L (k : Int) = true) {A : Option Addr} {c B : Nat} {l : List UInt8} (hS : Slc w B 1 A 128 c (l.map bv)) :
    Calls Try.prog 14 #[.pointer (some ⟨p, 0, none⟩), .int .i64 (k : Int), .slice A 128 c] w fun e w' => e = .returned (.int .i64 (L.stageE N (k : Int) 128)) ∧
      LogAt w' p go gs pd N (L.stage N (k : Int) 128 l) ∧ Step w w' (Foot p go gs) (Foot p go gs) := by
  have hkN : k < N := by unfold homeB at ho; rw [decide_eq_true_eq] at ho; omega
  have hNm := h.ok.most
  have hll : l.length = 128 := by have := hS.len; simpa using this
  have hSL := homeMap_length h.staged.rising h.stagedOk
  have hE : L.stageE N (k : Int) 128 = if mget L.staged k = none ∧ L.n - 1 < costN (L.staged.length + 1) then 45 else 0 := by
    unfold LogM.stageE
    rw [if_neg (by simp [hd]), if_neg (by simp [ho]), if_neg (by decide), Int.toNat_natCast]
  have hH := home_any h hk (k : Int) (by omega)
  rw [ho] at hH
  have hsv : ∀ v, mget L.staged k = some v → v.length = 128 := fun v hv => (h.stagedOk _ ((mget_some h.staged.rising).1 hv)).2
  obtain ⟨c0, c1, c2, c3, c4, c5, c6, c7, c8, fz⟩ := log_cells h.head
  rw [hd] at c8
  obtain ⟨b, off, rfl, hbB, hcell⟩ := hS.at_ (by decide)
  have hC : ∀ W : World, Calls Try.prog 39 #[.int .i64 ((L.staged.length : Int) + 1)] W fun e w' => e = .returned (.int .i64 (costN (L.staged.length + 1) : Int)) ∧ W = w' := fun W => by
    have := cost_any (L.staged.length + 1) (by omega) W
    rwa [Int.natCast_add] at this
  obtain ⟨y, hy⟩ : ∃ y, y = lookV L.staged k := ⟨_, rfl⟩
  have hyl : y.length = 128 := by
    rw [hy]; unfold lookV
    cases e : mget L.staged k with
    | none => rfl
    | some v => exact hsv v e
  have hst1 : ∀ W : World, (StoreS 80 (.pointer (some ⟨W.heap.size, 0, none⟩)) (secV y)).run Try.prog (W.alloc (.cells (zbytes 128) 80)) = .ok () (W.alloc (.cells (y.map bv).toArray 80)) := fun W =>
    StoreS.new (by simp only [List.size_toArray, List.length_map, hyl]; exact i_wsector) (by simp [zbytes_size, hyl]) (fun v hv => bvs_one y v (by simpa using hv)) W
  have hC2 : costN (L.staged.length + 1) ≤ 2000 := by unfold costN; omega
  have HLG := Lib.hid h
  have HD := Lib.hid hd
  have HH := Lib.hid hH
  have HC := Lib.hid hC
  have HY := Lib.hid hy
  have HS := Lib.hid hS
  have HO := Lib.hid ho
  have HLL := Lib.hid hll
  have HE := Lib.hid hE
  have HCELL := Lib.hid hcell
  clear h hd hk ho hH hsv hC hy hS hll hE hcell hyl
  go_enter Try.func14, Try.ntmps14
  go_wp2_with fail
  refine HH.out.mono ?_
  rintro e w0 ⟨rfl, n, hw0⟩
  have hb0 : Below w.heap.size w w0 := by rw [hw0]; exact below_drewN _ _ _
  have hL0 := HLG.out.free hb0
  obtain ⟨c0, c1, c2, c3, c4, c5, c6, c7, c8, fz⟩ := log_cells hL0.head
  rw [HD.out] at c8
  have hk0 := LookS.ok hL0.staged k
  rw [← HY.out] at hk0
  obtain ⟨W2, hW2⟩ : ∃ W2, W2 = w0.alloc (.cells (y.map bv).toArray 80) := ⟨_, rfl⟩
  have hb2 : Below w.heap.size w W2 := by rw [hW2]; exact hb0.alloc hb0.size _
  have hL2 := HLG.out.free hb2
  have hlen2 := LenS.ok hL2.staged
  have hca := cells_alloc hL0.head.lt
  rw [hW2] at hlen2
  have hst2 := hst1 w0
  clear hst1 hw0
  have HB2 := Lib.hid hb2
  have HW2 := Lib.hid hW2
  obtain ⟨hn4, hn255⟩ := And.intro hL0.ok.n4 hL0.ok.n255
  have hLE := llen_any hL2
  rw [hW2] at hLE
  have HLE := Lib.hid hLE
  clear hb2 hW2 hL0 hb0 hLE
  have HL2 := Lib.hid hL2
  clear hL2
  -- the store at the end
  have fin : ∃ o, ∀ W : World, W = W2.drew → (MapSetS 75 (.map (some gs)) (.int .i64 (k : Int)) (secV l)).run Try.prog W = .ok () (objSet W gs o) ∧ LogAt (objSet W gs o) p go gs pd N { L with staged := mput L.staged k l } ∧ Step w (objSet W gs o) (Foot p go gs) (Foot p go gs) := by
    have hL3 := HL2.out.free (Below.refl _ W2).drew
    obtain ⟨o, hr, hm⟩ := MapSetS.ok hL3.staged k l
    refine ⟨o, fun W hW => ?_⟩
    subst hW
    exact ⟨hr, hL3.putStaged hm (HLG.out.stagedOk.put HO.out HLL.out), ((Step.of_below HB2.out (Foot p go gs)).drew).objSet (.inl (.inr (.inr rfl))) o⟩
  have hld : ∀ W : World, W = W2.drew → (LoadS 80 (.pointer (some ⟨b, off, none⟩))).run Try.prog W = .ok (secV l) W := fun W hW => by
    subst hW
    have hS2 := (HS.out.lt (by decide)).below (HB2.out.drew)
    obtain ⟨b', off', e, _, hc2⟩ := hS2.at_ (by decide)
    injection e with e; injection e with e1 e2 _; subst e1 e2
    exact LoadS.of_range (cs := l.map bv) hc2 u_wsector rfl (by rw [List.length_map, HLL.out]; exact i_wsector)
  obtain ⟨o, hfin⟩ := fin
  obtain ⟨W3, hW3⟩ : ∃ W3, W3 = W2.drew := ⟨_, rfl⟩
  obtain ⟨hset, hL4, hS4⟩ := hfin W3 hW3
  have hld3 := hld W3 hW3
  have hL3 : LogAt W3 p go gs pd N L := by rw [hW3]; exact HL2.out.free (Below.refl _ W2).drew
  obtain ⟨d0, d1, d2, d3, d4, d5, d6, d7, d8, fz3⟩ := log_cells hL3.head
  have HR := Lib.hid (And.intro hL4 hS4)
  have HW3 := Lib.hid hW3
  clear hfin hL4 hS4 hL3 hld hW3
  generalize hW4 : objSet W3 gs o = W4 at *
  clear hW4
  cases hb : (mget L.staged k).isSome with
  | true =>
    rw [hb] at hk0
    have hne : ¬ (mget L.staged k = none ∧ L.n - 1 < costN (L.staged.length + 1)) := fun h => by rw [h.1] at hb; cases hb
    have HNE := Lib.hid hne
    clear hb hne
    go_wp2_with fail
    refine region_tail 8 (by kernel_rfl) (by kernel_rfl) ?_
    simp only [List.take_succ_cons, List.take_zero, List.drop_succ_cons, List.drop_zero]
    rw [← HW2.out, ← HW3.out]
    repeat still_step
    refine wpStill_nil ?_
    go_wp2_with fail
    go_ret
    have hE2 : L.stageE N (k : Int) 128 = 0 := by rw [HE.out, if_neg HNE.out]
    unfold LogM.stage
    rw [hE2, if_pos rfl, Int.toNat_natCast]
    exact ⟨rfl, HR.out⟩
  | false =>
    rw [hb] at hk0
    have hnone : mget L.staged k = none := by simpa using hb
    by_cases hfull : L.n - 1 < costN (L.staged.length + 1)
    · have hE2 : L.stageE N (k : Int) 128 = 45 := by rw [HE.out, if_pos ⟨hnone, hfull⟩]
      have HE2 := Lib.hid hE2
      have t1 : ((L.n - 1 : Nat) : Int) < (costN (L.staged.length + 1) : Int) := by omega
      clear hb hnone hE2 t1
      go_wp2_with fail
      refine (HC.out _).mono ?_
      rintro e w5 ⟨rfl, rfl⟩
      go_wp2_with fail
      refine HLE.out.mono ?_
      rintro e w5 ⟨rfl, rfl⟩
      go_wp2_with fail
      go_ret
      unfold LogM.stage
      rw [HE2.out, if_neg (by decide)]
      refine ⟨rfl, ?_, ?_⟩
      · rw [← HW2.out]; exact HL2.out
      · rw [← HW2.out]; exact Step.of_below HB2.out _
    · have hE2 : L.stageE N (k : Int) 128 = 0 := by rw [HE.out, if_neg (fun h => hfull h.2)]
      have HE2 := Lib.hid hE2
      have t1 : ¬ ((L.n - 1 : Nat) : Int) < (costN (L.staged.length + 1) : Int) := by omega
      clear hb hnone hE2 t1
      go_wp2_with fail
      refine (HC.out _).mono ?_
      rintro e w5 ⟨rfl, rfl⟩
      go_wp2_with fail
      refine HLE.out.mono ?_
      rintro e w5 ⟨rfl, rfl⟩
      go_wp2_with fail
      refine region_tail 8 (by kernel_rfl) (by kernel_rfl) ?_
      simp only [List.take_succ_cons, List.take_zero, List.drop_succ_cons, List.drop_zero]
      rw [← HW2.out, ← HW3.out]
      repeat still_step
      refine wpStill_nil ?_
      go_wp2_with fail
      go_ret
      unfold LogM.stage
      rw [HE2.out, if_pos rfl, Int.toNat_natCast]
      exact ⟨rfl, HR.out⟩
end
/-- Stage, all ways at once. -/
theorem stage_any (h : LogAt w p go gs pd N L) (hk : Disk w F pd N D) (i : Int) (hi : -9223372036854775808 ≤ i ∧ i ≤ 9223372036854775807) {A : Option Addr} {n c B : Nat} {l : List UInt8} (hS : Slc w B 1 A n c (l.map bv)) :
    Calls Try.prog 14 #[.pointer (some ⟨p, 0, none⟩), .int .i64 i, .slice A n c] w fun e w' => e = .returned (.int .i64 (L.stageE N i n)) ∧
      LogAt w' p go gs pd N (L.stage N i n l) ∧ Step w w' (Foot p go gs) (Foot p go gs) := by
  by_cases hd : L.dead = true
  · have hE : L.stageE N i n = 40 := by unfold LogM.stageE; rw [if_pos hd]
    unfold LogM.stage
    rw [hE, if_neg (by decide)]
    exact (stage_dead h hd i A n c).mono fun _ _ ⟨e, hb⟩ => ⟨e, h.free hb, Step.of_below hb _⟩
  · have hd' : L.dead = false := by simpa using hd
    cases ho : homeB N L i with
    | false =>
      have hE : L.stageE N i n = 43 := by unfold LogM.stageE; rw [if_neg hd, if_pos ho]
      unfold LogM.stage
      rw [hE, if_neg (by decide)]
      exact (stage_out h hd' hk i hi ho A n c).mono fun _ _ ⟨e, hb⟩ => ⟨e, h.free hb, Step.of_below hb _⟩
    | true =>
      by_cases hn : n = 128
      · subst hn
        obtain ⟨k, rfl, hkN⟩ := homeB_nat ho
        exact stage_in h hd' hk k ho hS
      · have hE : L.stageE N i n = 44 := by unfold LogM.stageE; rw [if_neg hd, if_neg (by simp [ho]), if_pos hn]
        unfold LogM.stage
        rw [hE, if_neg (by decide)]
        exact (stage_size h hd' hk i hi ho A n c hn).mono fun _ _ ⟨e, hb⟩ => ⟨e, h.free hb, Step.of_below hb _⟩
end
end Go.Proofs.Ytmhgahkainmbkaa
namespace Go.Proofs.Ytmhgahkainmbkaa
open Go.RowKit
set_option linter.unusedVariables false
set_option linter.unusedSimpArgs false

/-- A log on its disk. -/
structure Wal (w : World) (F : Nat → Prop) (p go gs pd N : Nat) (L : LogM) (D : DiskM) : Prop where
  log : LogAt w p go gs pd N L
  disk : Disk w F pd N D
  sep : ∀ k, Foot p go gs k → ¬ F k
def Both (F : Nat → Prop) (p go gs : Nat) : Nat → Prop := fun k => F k ∨ Foot p go gs k
/-- From w to wi only the log's and the disk's own memory has turned. -/
structure WS (w : World) (F : Nat → Prop) (wi : World) (Fi : Nat → Prop) (p go gs pd N : Nat) (L : LogM) (D : DiskM) : Prop where
  step : Step w wi (Both F p go gs) (Both Fi p go gs)
  wal : Wal wi Fi p go gs pd N L D
section
variable {w wi wj : World} {p go gs pd N : Nat} {L L' : LogM} {F Fi Fj : Nat → Prop} {D D' : DiskM}
theorem Wal.free (h : Wal wi F p go gs pd N L D) (hb : Below wi.heap.size wi wj) : Wal wj F p go gs pd N L D := ⟨h.log.free hb, h.disk.free hb, h.sep⟩
theorem Wal.start (h : Wal w F p go gs pd N L D) : WS w F w F p go gs pd N L D := ⟨Step.refl _ _, h⟩
theorem WS.free (h : WS w F wi Fi p go gs pd N L D) (hb : Below wi.heap.size wi wj) : WS w F wj Fi p go gs pd N L D :=
  ⟨h.step.trans (Step.of_below hb _), h.wal.free hb⟩
theorem WS.drew (h : WS w F wi Fi p go gs pd N L D) : WS w F wi.drew Fi p go gs pd N L D := h.free (Below.refl _ wi).drew
theorem WS.drewN (h : WS w F wi Fi p go gs pd N L D) (n : Nat) : WS w F (wi.drewN n) Fi p go gs pd N L D := h.free (below_drewN _ wi n)
theorem WS.alloc (h : WS w F wi Fi p go gs pd N L D) (o : Obj) : WS w F (wi.alloc o) Fi p go gs pd N L D := h.free ((Below.refl _ wi).alloc (Nat.le_refl _) o)
theorem WS.diskStep (h : WS w F wi Fi p go gs pd N L D) (s : Step wi wj Fi Fj) (d : Disk wj Fj pd N D') : WS w F wj Fj p go gs pd N L D' := by
  have hlt := h.wal.log.lt
  refine ⟨h.step.trans ⟨s.os, s.tape, s.output, s.size, fun k hk hn => s.block k hk (fun hf => hn (.inl hf)), fun k hk => ?_⟩, h.wal.log.step s h.wal.sep, d, fun k hk hf => ?_⟩
  · rcases hk with hk | hk
    · rcases s.next k hk with h1 | h1
      · exact .inl (.inl h1)
      · exact .inr h1
    · exact .inl (.inr hk)
  · rcases s.next k hf with h1 | h1
    · exact h.wal.sep k hk h1
    · have := hlt k hk; omega
theorem WS.logStep (h : WS w F wi Fi p go gs pd N L D) (s : Step wi wj (Foot p go gs) (Foot p go gs)) (l : LogAt wj p go gs pd N L') : WS w F wj Fi p go gs pd N L' D :=
  ⟨h.step.trans ⟨s.os, s.tape, s.output, s.size, fun k hk hn => s.block k hk (fun hf => hn (.inr hf)), fun k hk => .inl hk⟩, l, h.wal.disk.step s (fun k hk hf => h.wal.sep k hf hk), h.wal.sep⟩
theorem WS.trans (h : WS w F wi Fi p go gs pd N L D) (k : WS wi Fi wj Fj p go gs pd N L' D') : WS w F wj Fj p go gs pd N L' D' := ⟨h.step.trans k.step, k.wal⟩

/-- What the log is behind an error of the disk's. -/
def LogM.ends (L : LogM) (e : Int) : LogM := { L with dead := L.dead || e == 41 || e == 40 }
theorem WS.flush (h : WS w F wi Fi p go gs pd N L D) :
    Calls Try.prog 68 #[.pointer (some ⟨pd, 0, none⟩)] wi fun e w' => e = .returned (.int .i64 D.flushE) ∧ WS w F w' Fi p go gs pd N L D.flush :=
  (flush_any h.wal.disk).mono fun _ _ ⟨he, hs, hd⟩ => ⟨he, h.diskStep hs hd⟩
theorem WS.write (h : WS w F wi Fi p go gs pd N L D) (i : Int) {A : Option Addr} {n c B : Nat} {l : List UInt8} (hS : Slc wi B 1 A n c (l.map bv)) (hsep : ∀ a, A = some a → ¬ Fi a.block) (hroom : D.loose.length ≤ 1000000) :
    Calls Try.prog 47 #[.pointer (some ⟨pd, 0, none⟩), .int .i64 i, .slice A n c] wi fun e w' => e = .returned (.int .i64 (D.writeE N i l)) ∧ ∃ Fj, WS w F w' Fj p go gs pd N L (D.write N i l) :=
  (write_any h.wal.disk i hS hsep hroom).mono fun _ _ ⟨he, Fj, hs, hd⟩ => ⟨he, Fj, h.diskStep hs hd⟩
theorem WS.ended (h : WS w F wi Fi p go gs pd N L D) (e : Int) :
    Calls Try.prog 38 #[.pointer (some ⟨p, 0, none⟩), .int .i64 e] wi fun e' w' => e' = .returned (.int .i64 e) ∧ WS w F w' Fi p go gs pd N (L.ends e) D :=
  (ended_any h.wal.log e).mono fun _ _ ⟨he, hl, hs⟩ => ⟨he, h.logStep hs hl⟩

/-- The head of a log is written anew. -/
theorem LogAt.reHead (h : LogAt w p go gs pd N L) (hk : ∀ k, k ≠ p → wi.heap[k]? = w.heap[k]?) (hL : L'.Ok N) (h1 : L'.over = L.over) (h2 : L'.staged = L.staged) (hb : L'.base = L.base) (hn : L'.n = L.n)
    (hB : Blk wi p 77 #[.pointer (some ⟨pd, 0, none⟩), .int .i64 (L'.base : Int), .int .i64 (L'.n : Int), .int .u64 (L'.epoch : Int), .int .i64 (L'.used : Int), .int .u64 (L'.sum : Int), .map (some go), .map (some gs), .bool L'.dead]) : LogAt wi p go gs pd N L' := by
  have hh : ∀ i, homeB N L' i = homeB N L i := fun i => by unfold homeB; rw [hb, hn]
  refine ⟨hL, hB, ?_, ?_, h.apart, ?_, ?_⟩
  · rw [h1]; exact h.over.kept (hk _ h.p_go)
  · rw [h2]; exact h.staged.kept (hk _ h.p_gs)
  · rw [h1]; exact fun x hx => by rw [hh]; exact h.overOk x hx
  · rw [h2]; exact fun x hx => by rw [hh]; exact h.stagedOk x hx
theorem LogAt.setMark (h : LogAt w p go gs pd N L) {e u t : Nat} (he : e < 18446744073709551616) (hu : u < L.n) (ht : t < 18446744073709551616) :
    LogAt (((w.setCell ⟨p, 3, none⟩ (.int .u64 (e : Int))).setCell ⟨p, 4, none⟩ (.int .i64 (u : Int))).setCell ⟨p, 5, none⟩ (.int .u64 (t : Int))) p go gs pd N { L with epoch := e, used := u, sum := t } := by
  refine h.reHead (fun k hk => ?_) ⟨h.ok.most, h.ok.n4, h.ok.n255, h.ok.fits, he, hu, ht⟩ rfl rfl rfl rfl (((h.head.set_ 3 _).set_ 4 _).set_ 5 _)
  rw [heap_set_far _ _ _ _ _ hk, heap_set_far _ _ _ _ _ hk, heap_set_far _ _ _ _ _ hk]
end

/-- mark: what it answers, and what log and disk are behind it. -/
def markR (N : Nat) (L : LogM) (D : DiskM) (e u t : Nat) : Int × LogM × DiskM :=
  if D.flushE ≠ 0 then (D.flushE, L.ends D.flushE, D.flush)
  else if D.flush.writeE N (L.base : Int) (ctl e u t) ≠ 0 then (D.flush.writeE N (L.base : Int) (ctl e u t), L.ends (D.flush.writeE N (L.base : Int) (ctl e u t)), D.flush.write N (L.base : Int) (ctl e u t))
  else if (D.flush.write N (L.base : Int) (ctl e u t)).flushE ≠ 0 then ((D.flush.write N (L.base : Int) (ctl e u t)).flushE, L.ends (D.flush.write N (L.base : Int) (ctl e u t)).flushE, (D.flush.write N (L.base : Int) (ctl e u t)).flush)
  else (0, { L with epoch := e, used := u, sum := t }, (D.flush.write N (L.base : Int) (ctl e u t)).flush)
theorem flush_loose {D : DiskM} (h : D.flushE = 0) : D.flush.loose = [] := by
  unfold DiskM.flushE at h
  unfold DiskM.flush
  split at h
  · omega
  · split at h
    · omega
    · rename_i h1 h2
      simp [h1, h2]

def Done3 (w : World) (F : Nat → Prop) (p go gs pd N : Nat) (r : Int × LogM × DiskM) (e : Ending) (w' : World) : Prop := e = .returned (.int .i64 r.1) ∧ ∃ F', WS w F w' F' p go gs pd N r.2.1 r.2.2
section
attribute [local go_sem ↓] load_wsector_mark store_wsector_mark alloc_wsector_mark
attribute [local go_sem] alloc_wsector
variable {w wi wj : World} {p go gs pd N : Nat} {L L' : LogM} {F Fi Fj : Nat → Prop} {D D' : DiskM}
set_option maxRecDepth 100000 in
set_option maxHeartbeats 2000000 in
theorem mark_any (h : WS w F wi Fi p go gs pd N L D) {e u t : Nat} (he : e < 18446744073709551616) (hu : u < L.n) (ht : t < 18446744073709551616) :
    Calls Try.prog 49 #[.pointer (some ⟨p, 0, none⟩), .int .u64 (e : Int), .int .i64 (u : Int), .int .u64 (t : Int)] wi (Done3 w F p go gs pd N (markR N L D e u t)) := by
  obtain ⟨c0, c1, c2, c3, c4, c5, c6, c7, c8, fz⟩ := log_cells h.wal.log.head
  have hu2 : u < 65536 := by have := h.wal.log.ok.n255; omega
  have H := Lib.hid h
  obtain ⟨E1, hE1⟩ : ∃ E, E = D.flushE := ⟨_, rfl⟩
  have HE1 := Lib.hid hE1
  have hfl := h.flush
  rw [← hE1] at hfl
  have HF := Lib.hid hfl
  clear h hE1 hfl
  by_cases h1 : E1 = 0
  · have hE1' : D.flushE = 0 := by rw [← HE1.out, h1]
    have HE1' := Lib.hid hE1'
    have hmk : markR N L D e u t = if D.flush.writeE N (L.base : Int) (ctl e u t) ≠ 0 then (D.flush.writeE N (L.base : Int) (ctl e u t), L.ends (D.flush.writeE N (L.base : Int) (ctl e u t)), D.flush.write N (L.base : Int) (ctl e u t))
  else if (D.flush.write N (L.base : Int) (ctl e u t)).flushE ≠ 0 then ((D.flush.write N (L.base : Int) (ctl e u t)).flushE, L.ends (D.flush.write N (L.base : Int) (ctl e u t)).flushE, (D.flush.write N (L.base : Int) (ctl e u t)).flush)
  else (0, { L with epoch := e, used := u, sum := t }, (D.flush.write N (L.base : Int) (ctl e u t)).flush) := by unfold markR; rw [if_neg (by simp [hE1'])]
    rw [hmk]
    subst h1
    clear hmk hE1'
    obtain ⟨D1, hD1⟩ : ∃ D1, D1 = D.flush := ⟨_, rfl⟩
    have hlo : D1.loose = [] := by rw [hD1]; exact flush_loose HE1'.out
    rw [← hD1]
    obtain ⟨f, hf⟩ : ∃ f, f = ctl e u t := ⟨_, rfl⟩
    rw [← hf]
    obtain ⟨E2, hE2⟩ : ∃ E, E = D1.writeE N (L.base : Int) f := ⟨_, rfl⟩
    obtain ⟨D2, hD2⟩ : ∃ D2, D2 = D1.write N (L.base : Int) f := ⟨_, rfl⟩
    rw [← hE2, ← hD2]
    obtain ⟨E3, hE3⟩ : ∃ E, E = D2.flushE := ⟨_, rfl⟩
    obtain ⟨D3, hD3⟩ : ∃ D, D = D2.flush := ⟨_, rfl⟩
    rw [← hE3, ← hD3]
    obtain ⟨R, hR⟩ : ∃ R, R = (if E2 ≠ 0 then (E2, L.ends E2, D2) else if E3 ≠ 0 then (E3, L.ends E3, D3) else (0, { L with epoch := e, used := u, sum := t }, D3)) := ⟨_, rfl⟩
    rw [← hR]
    have HD1 := Lib.hid hD1
    have HLO := Lib.hid hlo
    have HFF := Lib.hid hf
    have HE2 := Lib.hid hE2
    have HE3 := Lib.hid hE3
    have HD2 := Lib.hid hD2
    have HD3 := Lib.hid hD3
    have HR := Lib.hid hR
    clear hD1 hlo hf hE2 hD2 hE3 hD3 hR
    go_enter Try.func49, Try.ntmps49
    go_wp2_with fail
    refine HF.out.mono ?_
    rintro e' w1 ⟨rfl, h1⟩
    rw [← HD1.out] at h1
    obtain ⟨c0, c1, c2, c3, c4, c5, c6, c7, c8, fz⟩ := log_cells h1.wal.log.head
    have H1 := Lib.hid h1
    clear h1
    go_wp2_with fail
    refine (control_any e u t he hu2 ht w1).mono ?_
    rintro e' w2 ⟨rfl, hb2⟩
    have h2 := H1.out.free hb2
    obtain ⟨c0, c1, c2, c3, c4, c5, c6, c7, c8, fz⟩ := log_cells h2.wal.log.head
    have hca := cells_alloc h2.wal.log.head.lt
    have hfl : f.length = 128 := by rw [HFF.out]; exact ctl_length e u t
    rw [← HFF.out]
    have hst := StoreS.new (P := Try.prog) (ty := 80) (t := 80) (c := zbytes 128) (x := (f.map bv).toArray) (by simp only [List.size_toArray, List.length_map, hfl]; exact i_wsector) (by simp [zbytes_size, hfl]) (fun v hv => bvs_one f v (by simpa using hv)) w2
    obtain ⟨w3, hw3⟩ : ∃ w3, w3 = w2.alloc (.cells (f.map bv).toArray 80) := ⟨_, rfl⟩
    have h3 : WS w F w3 Fi p go gs pd N L D1 := by rw [hw3]; exact h2.alloc _
    have hB3 : Blk w3 w2.heap.size 80 (f.map bv).toArray := by rw [hw3]; exact Blk.new _ _ _
    have hS3 := hB3.slc (sz := 1) (n := 128) (c := 128) (by simp [hfl]) (Nat.le_refl _) (by decide)
    rw [Nat.mul_one, List.take_of_length_le (by simp [hfl])] at hS3
    have hsep : ∀ a : Addr, some (⟨w2.heap.size, 0, none⟩ : Addr) = some a → ¬ Fi a.block := fun a ha hf => by
      injection ha with ha; subst ha
      exact absurd (h2.wal.disk.1 _ hf) (Nat.lt_irrefl _)
    have hwr := fun W : World => fun hW : W = w3.drew => by
      subst hW
      exact h3.drew.write (L.base : Int) (hS3.drew) hsep (by rw [HLO.out]; decide)
    rw [hw3] at hwr
    have HWR := Lib.hid (hwr _ rfl)
    clear hw3 h3 hB3 hS3 hsep hwr h2 hb2 hfl
    go_wp2_with fail
    refine region_tail 9 (by kernel_rfl) (by kernel_rfl) ?_
    simp only [List.take_succ_cons, List.take_zero, List.drop_succ_cons, List.drop_zero]
    repeat still_step
    refine wpStill_nil ?_
    go_wp2_with fail
    have HWR2 := HWR.out
    rw [← HE2.out, ← HD2.out] at HWR2
    refine HWR2.mono ?_
    rintro e' w4 ⟨rfl, F4, h4⟩
    obtain ⟨c0, c1, c2, c3, c4, c5, c6, c7, c8, fz⟩ := log_cells h4.wal.log.head
    clear HWR2 HWR
    have H4 := Lib.hid h4
    clear h4
    by_cases h2 : E2 = 0
    · subst h2
      go_wp2_with fail
      refine H4.out.flush.mono ?_
      rintro e' w5 ⟨rfl, h5⟩
      obtain ⟨c0, c1, c2, c3, c4, c5, c6, c7, c8, fz⟩ := log_cells h5.wal.log.head
      rw [← HE3.out]
      rw [← HD3.out] at h5
      have H5 := Lib.hid h5
      clear h5
      by_cases h3 : E3 = 0
      · subst h3
        go_wp2_with fail
        go_ret
        rw [show R = (0, { L with epoch := e, used := u, sum := t }, D3) from by rw [HR.out, if_neg (by simp), if_neg (by simp)]]
        refine ⟨rfl, F4, H5.out.logStep ((((Step.refl _ _).setCell (p := ⟨p, 3, none⟩) (.inl (.inl rfl)) _).setCell (p := ⟨p, 4, none⟩) (.inl (.inl rfl)) _).setCell (p := ⟨p, 5, none⟩) (.inl (.inl rfl)) _) (H5.out.wal.log.setMark he hu ht)⟩
      · go_wp2_with fail
        refine (H5.out.ended E3).mono ?_
        rintro e' w6 ⟨rfl, h6⟩
        have H6 := Lib.hid h6
        clear h6
        go_wp2_with fail
        go_ret
        rw [show R = (E3, L.ends E3, D3) from by rw [HR.out, if_neg (by simp), if_pos h3]]
        exact ⟨rfl, _, H6.out⟩
    · go_wp2_with fail
      refine (H4.out.ended E2).mono ?_
      rintro e' w6 ⟨rfl, h6⟩
      have H6 := Lib.hid h6
      clear h6
      go_wp2_with fail
      go_ret
      rw [show R = (E2, L.ends E2, D2) from by rw [HR.out, if_pos h2]]
      exact ⟨rfl, _, H6.out⟩
  · have hmk : markR N L D e u t = (E1, L.ends E1, D.flush) := by unfold markR; rw [← HE1.out, if_pos h1]
    rw [hmk]
    clear hmk
    go_enter Try.func49, Try.ntmps49
    go_wp2_with fail
    refine HF.out.mono ?_
    rintro e' w1 ⟨rfl, h1⟩
    have H1 := Lib.hid h1
    clear h1
    go_wp2_with fail
    refine (H1.out.ended E1).mono ?_
    rintro e' w2 ⟨rfl, h2⟩
    have H2 := Lib.hid h2
    clear h2
    go_wp2_with fail
    go_ret
    exact ⟨rfl, _, H2.out⟩
end
end Go.Proofs.Ytmhgahkainmbkaa
namespace Go.Proofs.Ytmhgahkainmbkaa
open Go.RowKit
set_option linter.unusedVariables false
set_option linter.unusedSimpArgs false

def nv (h : Nat) : Value := .int .i64 (h : Int)
def listHead (hs : List Nat) : List UInt8 := le 2 hs.length ++ hs.flatMap (le 2)
/-- A list's bytes. -/
def listB (hs : List Nat) : List UInt8 := pad (listHead hs)
theorem flatMap_le (hs : List Nat) : (hs.flatMap (le 2)).length = 2 * hs.length := by
  induction hs with
  | nil => rfl
  | cons h hs ih => simp [List.flatMap_cons, le_length, ih]; omega
theorem listHead_length (hs : List Nat) : (listHead hs).length = 2 + 2 * hs.length := by simp only [listHead, List.length_append, le_length, flatMap_le]
theorem listB_length {hs : List Nat} (h : hs.length ≤ 60) : (listB hs).length = 128 := pad_length (by rw [listHead_length]; omega)
theorem Slc.nat {w : World} {B : Nat} {A : Option Addr} {n c : Nat} {l : List Nat} (h : Slc w B 1 A n c (l.map nv)) {k : Nat} (hk : k < n) :
    ∃ b off, A = some ⟨b, off, none⟩ ∧ b < B ∧ ∃ hl : k < l.length, w.cell? ⟨b, off + k, none⟩ = some (.int .i64 (l[k] : Int)) := by
  obtain ⟨b, off, e, hb, hc⟩ := h.at_ (by omega)
  have hl : k < l.length := by have := h.len; simp at this; omega
  exact ⟨b, off, e, hb, hl, hc k _ (by simp [nv, List.getElem?_map, List.getElem?_eq_getElem hl])⟩

def SliceAtS (ty : TypeId) (x : Value) (lo hi mx : Option Value) : Sem Value := Instr.sliceAt ty x lo hi mx
theorem sliceAt_mark (x lo hi : Value) : Instr.sliceAt 80 x (some lo) (some hi) none = SliceAtS 80 x (some lo) (some hi) none := rfl
theorem SliceAtS.both {P : Program} {ty e : TypeId} {n : Nat} (hu : P.underlying ty = some (.array n e)) (hs : (P.info? e).map (·.size) = some 1) {g lo hi : Nat} {z1 z2 : Int} (h1 : z1 = (lo : Int)) (h2 : z2 = (hi : Int)) (hlo : lo ≤ hi) (hhi : hi ≤ n) (hlt : lo < n) (w : World) :
    (SliceAtS ty (.pointer (some ⟨g, 0, none⟩)) (some (.int .i64 z1)) (some (.int .i64 z2)) none).run P w = .ok (.slice (some ⟨g, lo, none⟩) (hi - lo) (n - lo)) w := by
  subst h1 h2
  cases hq : P.info? e with
  | none => simp [hq] at hs
  | some i =>
    have hi' : i.size = 1 := by simpa [hq] using hs
    have hne : ¬ n = lo := by omega
    unfold SliceAtS
    simp [Instr.sliceAt, Instr.sureAddr, Instr.sliceBounds, Instr.sliceBound, run_underlying hu, sizeOf, typeInfo, hq, hi', asIntOf, hlo, hhi, hne, addr_of_add]
section
attribute [local go_sem ↓] load_wsector_mark store_wsector_mark alloc_wsector_mark sliceAt_mark
attribute [local go_sem] alloc_wsector
set_option maxRecDepth 100000 in
set_option maxHeartbeats 2000000 in
theorem listed_any {A : Option Addr} {n c B : Nat} {hs : List Nat} (w : World) (hS : Slc w B 1 A n c (hs.map nv)) (hn : n ≤ 60) (hh : ∀ h ∈ hs, h < 65536) :
    Calls Try.prog 46 #[.slice A n c] w fun e' w' => e' = .returned (.agg ((listB hs).map bv).toArray) ∧ Below w.heap.size w w' := by
  have hlen : hs.length = n := by have := hS.len; simpa using this
  obtain ⟨W, hW⟩ : ∃ W, W = (w.alloc (.cells (zbytes 128) 80)).alloc (.cells (zbytes 128) 80) := ⟨_, rfl⟩
  have h0 : SecSt w W w.heap.size w.heap.size (w.heap.size + 1) [] := by
    refine ⟨?_, ?_, ?_⟩
    · subst hW; have := Blk.new (w.alloc (.cells (zbytes 128) 80)) 80 (zbytes 128); rwa [World.size_alloc] at this
    · subst hW; exact (Blk.new w _ _).alloc _
    · subst hW; exact ((Below.refl _ _).alloc (Nat.le_refl _) _).alloc (by simp) _
  have HS := Lib.hid (hS.lt (by decide))
  have HL := Lib.hid hlen
  have HH := Lib.hid hh
  have H0 := Lib.hid h0
  have HP := put_filled h0 (o := 0) (n := 2) (c := 128) (by omega) (by omega) rfl (by decide) (by decide) (by decide) n (by omega)
  rw [hW, List.nil_append] at HP
  have HP2 := Lib.hid HP
  clear hW h0 hlen hS hh HP
  go_enter Try.func46, Try.ntmps46
  go_wp2_with fail
  refine HP2.out.mono ?_
  rintro e' W1 ⟨rfl, h1⟩
  have H1 := Lib.hid h1
  clear h1
  go_wp2_with fail
  go_loopw [13] (fun i wr => ∃ k : Nat, k ≤ n ∧ i = .int .i64 (k : Int) ∧ SecSt w wr w.heap.size w.heap.size (w.heap.size + 1) (le 2 n ++ (hs.take k).flatMap (le 2))) (fun i _ => n - (intOf i).toNat)
  case atStart => exact ⟨0, by omega, rfl, by simpa using H1.out⟩
  case round =>
    obtain ⟨k, hk, rfl, hst⟩ := hrel
    by_cases hlt : k < n
    · have hS2 := HS.out.below hst.below
      obtain ⟨b, off, rfl, hb, hl, hc⟩ := hS2.nat hlt
      have hhk := HH.out _ (List.getElem_mem hl)
      have hdl : (le 2 n ++ (hs.take k).flatMap (le 2)).length = 2 + 2 * k := by
        rw [List.length_append, le_length, flatMap_le, List.length_take, HL.out]; omega
      have htk : (hs.take (k + 1)).flatMap (le 2) = (hs.take k).flatMap (le 2) ++ le 2 hs[k] := by
        rw [List.take_succ_eq_append_getElem hl, List.flatMap_append]; simp
      have hput := put_filled hst (o := 2 + 2 * k) (n := 2) (c := 128 - (2 + 2 * k)) (by omega) (by omega) hdl.symm (by omega) (by omega) (by omega) hs[k] (by omega)
      rw [List.append_assoc, ← htk] at hput
      generalize hs[k] = x at *
      have HPUT := Lib.hid hput
      have hsl := fun W : World => SliceAtS.both (P := Try.prog) (g := w.heap.size + 1) (lo := 2 + 2 * k) (hi := 4 + 2 * k) (z1 := 2 + 2 * (k : Int)) (z2 := 4 + 2 * (k : Int)) u_wsector byte_size1 (by omega) (by omega) (by omega) (by omega) (by omega) W
      rw [show 4 + 2 * k - (2 + 2 * k) = 2 by omega] at hsl
      clear hput hS2 hst hdl htk hb
      go_wp2_with fail
      refine HPUT.out.mono ?_
      rintro e' W2 ⟨rfl, h2⟩
      have H2 := Lib.hid h2
      clear h2 hsl
      go_wp2_with fail
      exact ⟨⟨k + 1, by omega, by go_num, H2.out⟩, by simp [intOf]; omega⟩
    · obtain rfl : k = n := by omega
      have hfin : le 2 k ++ (hs.take k).flatMap (le 2) = listHead hs := by rw [List.take_of_length_le (by rw [HL.out]; exact Nat.le_refl _)]; unfold listHead; rw [HL.out]
      rw [hfin] at hst
      have hll : (listHead hs).length ≤ 128 := by rw [listHead_length, HL.out]; omega
      obtain ⟨f, hf⟩ : ∃ f, f = listB hs := ⟨_, rfl⟩
      have hfl : f.length = 128 := by rw [hf]; exact listB_length (by rw [HL.out]; exact hn)
      have hB7 : Blk wr (w.heap.size + 1) 80 (f.map bv).toArray := by
        have := hst.at_
        rw [filled_pad] at this
        rw [hf]; exact this
      have hld := LoadS.of_blk (P := Try.prog) (o := 0) (n := 128) hB7 u_wsector rfl i_wsector (by simp [hfl])
      rw [show (f.map bv).toArray.extract 0 (0 + 128) = (f.map bv).toArray by apply Array.ext'; simp only [Array.toList_extract, List.extract_eq_take_drop, List.drop_zero]; rw [List.take_of_length_le (by simp [hfl])]] at hld
      have hst2 := StoreS.of_blk (P := Try.prog) (o := 0) (ty := 80) (vs := (f.map bv).toArray) hst.res (by simp only [List.size_toArray, List.length_map, hfl]; exact i_wsector) (by simp [filled_size, hfl]) (fun v hv => bvs_one f v (by simpa using hv))
      generalize hrow : ((filled []).toList.take 0 ++ (f.map bv).toArray.toList ++ (filled []).toList.drop (0 + (f.map bv).toArray.toList.length)).toArray = row at hst2
      have hrowf : row = (f.map bv).toArray := by
        subst hrow
        apply Array.ext'
        simp [filled, hfl]
      rw [hrowf] at hst2
      obtain ⟨W8, hW8⟩ : ∃ W8, W8 = wr.setRow w.heap.size (f.map bv).toArray := ⟨_, rfl⟩
      rw [← hW8] at hst2
      have hb8 : Below w.heap.size w W8 := by rw [hW8]; exact below_setRow hst.below (Nat.le_refl _) _
      have hB8 : Blk W8 w.heap.size 80 (f.map bv).toArray := by rw [hW8]; exact hst.res.row _
      have HB8 := Lib.hid hB8
      have HF := Lib.hid hf
      have HFL := Lib.hid hfl
      clear hB7 hst hW8 hrowf hrow hB8 hf hfl hfin hll
      go_wp2_with fail
      exact bodyPost_ret (v := .agg (f.map bv).toArray) (results_row (t := 2) (g := w.heap.size) rfl rfl HB8.out u_wsector rfl (by simp only [List.size_toArray, List.length_map, HFL.out]; exact i_wsector)) rfl ⟨by rw [HF.out], hb8⟩
end
end Go.Proofs.Ytmhgahkainmbkaa
namespace Go.Proofs.Ytmhgahkainmbkaa
open Go.RowKit
set_option linter.unusedVariables false
set_option linter.unusedSimpArgs false

theorem eq_round {P : Program} {e : TypeId} {d : Nat} (he : P.underlying e = some (.int .u8)) (ha : ∀ w, (isAgg e).run P w = .ok false w) {l m : List UInt8} (hlm : l.length = m.length) (w : World) : ∀ (k i : Nat), i + k = l.length →
    ((forIn (m := Sem) (List.range' i k) ((none, ()) : Option Bool × Unit) (fun i __s => do
              let __do_lift ← part e (List.map bv l).toArray i
              let __do_lift_1 ← part e (List.map bv m).toArray i
              let __do_lift ← Op.equalIn (d + 1) e __do_lift __do_lift_1
              if (!__do_lift) = true then pure (ForInStep.done (some false, ())) else pure (ForInStep.yield (none, ())))).run P w) = .ok (if l.drop i = m.drop i then (none, ()) else (some false, ())) w := by
  intro k
  induction k with
  | zero =>
    intro i hi
    rw [List.drop_of_length_le (by omega), List.drop_of_length_le (by omega), if_pos rfl]
    rfl
  | succ k ih =>
    intro i hi
    have h1 : i < l.length := by omega
    have h2 : i < m.length := by omega
    have c1 : (List.map bv l).toArray[i]? = some (bv l[i]) := by simp [h1]
    have c2 : (List.map bv m).toArray[i]? = some (bv m[i]) := by simp [h2]
    rw [List.range'_succ, List.forIn_cons]
    have p1 : (part e (List.map bv l).toArray i).run P w = .ok (bv l[i]) w := by simp only [part, Sem.run_bind, ha, Result.andThen_ok, Bool.false_eq_true, if_false, c1, Sem.run_pure]
    have p2 : (part e (List.map bv m).toArray i).run P w = .ok (bv m[i]) w := by simp only [part, Sem.run_bind, ha, Result.andThen_ok, Bool.false_eq_true, if_false, c2, Sem.run_pure]
    have p3 : (Op.equalIn (d + 1) e (bv l[i]) (bv m[i])).run P w = .ok ((l[i].toNat : Int) == (m[i].toNat : Int)) w := run_equalIn_int w d e .u8 .u8 _ _ he
    simp only [Sem.run_bind, p1, p2, p3, Result.andThen_ok]
    rw [List.drop_eq_getElem_cons h1, List.drop_eq_getElem_cons h2]
    by_cases hx : l[i] = m[i]
    · have hb : ((l[i].toNat : Int) == (m[i].toNat : Int)) = true := by simp [hx]
      rw [hb]
      simp only [Bool.not_true, Bool.false_eq_true, if_false, Sem.run_pure, Result.andThen_ok, List.cons.injEq, hx, true_and]
      exact ih (i + 1) (by omega)
    · have hb : ((l[i].toNat : Int) == (m[i].toNat : Int)) = false := by
        simp only [beq_eq_false_iff_ne, ne_eq]
        intro h
        exact hx (UInt8.toNat_inj.1 (by omega))
      rw [hb]
      simp only [Bool.not_false, if_true, Sem.run_pure, Result.andThen_ok, List.cons.injEq, hx, false_and, if_false]

theorem run_equalIn_bytes {P : Program} {t e : TypeId} {n d : Nat} (ht : P.underlying t = some (.array n e)) (he : P.underlying e = some (.int .u8)) (hs : (P.info? e).map (·.size) = some 1) (ha : ∀ w, (isAgg e).run P w = .ok false w) {l m : List UInt8} (hl : l.length = n) (hm : m.length = n) (w : World) :
    (Op.equalIn (d + 2) t (.agg (l.map bv).toArray) (.agg (m.map bv).toArray)).run P w = .ok (decide (l = m)) w := by
  rw [Op.equalIn]
  simp only [Sem.run_bind, run_underlying ht, Result.andThen_ok, sizeOf, typeInfo, run_program]
  cases hq : P.info? e with
  | none => simp [hq] at hs
  | some i =>
    have hi : i.size = 1 := by simpa [hq] using hs
    simp only [Sem.run_pure, Result.andThen_ok, hi, Nat.mul_one, Std.Legacy.Range.forIn_eq_forIn_range', Std.Legacy.Range.size]
    have := eq_round (P := P) (d := d) he ha (l := l) (m := m) (by omega) w n 0 (by omega)
    simp only [List.drop_zero] at this
    rw [show (n - 0 + 1 - 1) / 1 = n by simp, this]
    by_cases hlm : l = m
    · simp [hlm]
    · simp [hlm]
def EqSecS (t : TypeId) (x y : Value) : Sem Bool := Op.equalIn 10000 t x y
theorem eqsec_mark (x y : Value) : Op.equalIn 10000 80 x y = EqSecS 80 x y := rfl
theorem EqSecS.ok {l m : List UInt8} (hl : l.length = 128) (hm : m.length = 128) (w : World) : (EqSecS 80 (secV l) (secV m)).run Try.prog w = .ok (decide (l = m)) w :=
  run_equalIn_bytes (d := 9998) u_wsector Try.underlying5 byte_size1 (fun w => by kernel_rfl) hl hm w
end Go.Proofs.Ytmhgahkainmbkaa
