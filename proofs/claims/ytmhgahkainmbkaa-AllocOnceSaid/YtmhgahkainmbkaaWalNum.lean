/- The walks of package wal's numbers: put, get. -/
import Derived.Test.YtmhgahkainmbkaaWalPlain
import Derived.Test.YtmhgahkainmbkaaSumP
import Derived.Test.YtmhgahkainmbkaaMarks
import Derived.Laws.BitsAllLaws
namespace Go.Proofs.Ytmhgahkainmbkaa
open Go.RowKit
set_option linter.unusedVariables false
set_option linter.unusedSimpArgs false

theorem setRow_setCell (w : World) (g i : Nat) (a : Array Value) (v : Value) : (w.setRow g a).setCell ⟨g, i, none⟩ v = w.setRow g (a.setIfInBounds i v) := by
  unfold World.setRow World.setCell
  congr 1
  apply Array.ext_getElem?
  intro k
  simp only [Array.getElem?_modify]
  by_cases h : g = k
  · subst h
    simp only [if_true]
    cases w.heap[g]? with
    | none => rfl
    | some o => cases o <;> rfl
  · simp [h]

/-- A row of cells with bytes laid in from o on. -/
def laid (cs : Array Value) (o : Nat) (l : List UInt8) : Array Value := (cs.toList.take o ++ l.map bv ++ cs.toList.drop (o + l.length)).toArray
theorem laid_nil (cs : Array Value) (o : Nat) : laid cs o [] = cs := by
  apply Array.ext'; simp [laid]
theorem laid_size {cs : Array Value} {o : Nat} {l : List UInt8} (h : o + l.length ≤ cs.size) : (laid cs o l).size = cs.size := by
  simp only [laid, List.size_toArray, List.length_append, List.length_take, List.length_map, List.length_drop, Array.length_toList]; omega
theorem laid_snoc {cs : Array Value} {o : Nat} {l : List UInt8} (c : UInt8) (h : o + l.length < cs.size) : (laid cs o l).setIfInBounds (o + l.length) (bv c) = laid cs o (l ++ [c]) := by
  apply Array.ext'
  have hl : (cs.toList.take o ++ l.map bv).length = o + l.length := by simp; omega
  have hd : cs.toList.drop (o + l.length) = cs.toList[o + l.length]'(by simpa using h) :: cs.toList.drop (o + l.length + 1) := List.drop_eq_getElem_cons (by simpa using h)
  simp only [laid, Array.toList_setIfInBounds, hd]
  rw [List.set_append_right _ _ (by omega), hl, Nat.sub_self, List.set_cons_zero]
  simp [List.append_assoc, Nat.add_assoc]
theorem laid_at {cs : Array Value} {o : Nat} {l : List UInt8} (h : o + l.length < cs.size) : (laid cs o l)[o + l.length]? = cs[o + l.length]? := by
  have hl : (cs.toList.take o ++ l.map bv).length = o + l.length := by simp; omega
  have e := Array.getElem?_toList (xs := laid cs o l) (i := o + l.length)
  rw [← e]
  simp only [laid]
  rw [List.getElem?_append_right (by omega), hl, Nat.sub_self, List.getElem?_drop]
  simp

theorem shl8_or (q : Nat) (c : UInt8) (h : q < 72057594037927936) : bits BinOp.or IntKind.u64 ((q : Int) * 256) (IntKind.u64.wrap (c.toNat : Int)) = ((c.toNat + 256 * q : Nat) : Int) := by
  have hc := c.toNat_lt
  rw [wrap_u64_nat _ (by omega), show ((q : Int) * 256) = ((q * 256 : Nat) : Int) by omega, u64_or_nat _ _ (by omega) (by omega), nat_join 8 _ _ (by omega) (by omega)]
  omega
theorem byte_mod (v : Nat) : (v : Int) % 256 = ((UInt8.ofNat v).toNat : Int) := by
  simp [UInt8.toNat_ofNat']

set_option maxHeartbeats 1000000 in
theorem put_any {g o n c : Nat} {t : TypeId} {cs : Array Value} (w : World) (hB : Blk w g t cs) (hle : o + n ≤ cs.size) (hn : n ≤ c) (hc : c ≤ maxLen) (v : Nat) (hv : v < 18446744073709551616) :
    Calls Try.prog 75 #[.slice (some ⟨g, o, none⟩) n c, .int .u64 (v : Int)] w fun e w' => e = .returned (.tuple #[]) ∧ w' = w.setRow g (laid cs o (le n v)) := by
  have hm : n ≤ 9223372036854775807 := by unfold maxLen at hc; omega
  have HB := Lib.hid hB
  clear hB hc
  go_enter Try.func75, Try.ntmps75
  go_wp2
  go_loopw [1, 7] (fun t i wr => ∃ k : Nat, k ≤ n ∧ i = .int .i64 k ∧ t = .int .u64 ((v / 256 ^ k : Nat) : Int) ∧ wr = w.setRow g (laid cs o (le k v))) (fun _ i _ => n - (intOf i).toNat)
  case atStart => exact ⟨0, Nat.zero_le _, rfl, by simp, by rw [le, laid_nil]; exact (setRow_self w g cs _ _ HB.out).symm⟩
  case round =>
    obtain ⟨k, hk, rfl, rfl, hw⟩ := hrel
    by_cases hlt : k < n
    · have hB2 : Blk wr g t (laid cs o (le k v)) := by rw [hw]; exact HB.out.row _
      have hcell : wr.cell? ⟨g, o + k, none⟩ = cs[o + k]? := by
        rw [hB2.cell]; have := laid_at (cs := cs) (o := o) (l := le k v) (by rw [le_length]; omega); rwa [le_length] at this
      rw [Array.getElem?_eq_getElem (by omega)] at hcell
      have hfz := hB2.frozen (o + k)
      have hs := laid_snoc (cs := cs) (o := o) (l := le k v) (UInt8.ofNat (v / 256 ^ k)) (by rw [le_length]; omega)
      rw [le_length, ← le_succ] at hs
      have hdiv : v / 256 ^ k / 256 = v / 256 ^ (k + 1) := by rw [Nat.div_div_eq_div_mul, Nat.pow_succ]
      have hvk : v / 256 ^ k < 18446744073709551616 := Nat.lt_of_le_of_lt (Nat.div_le_self _ _) hv
      have HW := Lib.hid hw
      have HS := Lib.hid hs
      have HD := Lib.hid hdiv
      generalize v / 256 ^ k = q at *
      clear hw hs hB2 hdiv
      go_wp2
      refine ⟨⟨k + 1, by omega, by go_num, ?_, ?_⟩, by simp [intOf]; omega⟩
      · rw [← HD.out]; congr 1
      · rw [HW.out, byte_mod, ← HS.out, ← setRow_setCell]; rfl
    · obtain rfl : k = n := by omega
      have HW := Lib.hid hw
      clear hw
      go_wp2
      go_end0
      exact ⟨rfl, HW.out⟩

set_option maxHeartbeats 1000000 in
theorem get_any {A : Option Addr} {n c B : Nat} {l : List UInt8} (w : World) (h : Slc w B 1 A n c (l.map bv)) (h8 : n ≤ 8) :
    Calls Try.prog 63 #[.slice A n c] w fun e w' => e = .returned (.int .u64 (ofLe l : Int)) ∧ w = w' := by
  have hlen : l.length = n := by have := h.len; simpa using this
  have hlt8 := ofLe_lt8 (l := l) (by omega)
  have HL := Lib.hid hlen
  clear hlen
  go_enter Try.func63, Try.ntmps63
  go_wp2
  go_loop [3, 4] (fun t i => ∃ k : Nat, k ≤ n ∧ i = .int .i64 ((k : Int) - 1) ∧ t = .int .u64 ((ofLe (l.drop k) : Nat) : Int)) (fun _ i => (intOf i + 1).toNat)
  case atStart => exact ⟨n, Nat.le_refl _, rfl, by rw [List.drop_of_length_le (by rw [HL.out]; exact Nat.le_refl _)]; rfl⟩
  case round =>
    obtain ⟨k, hk, rfl, rfl⟩ := hrel
    rcases k with _ | k
    · go_wp2
      go_ret
      exact ⟨rfl, rfl⟩
    · have hkn : k < n := by omega
      obtain ⟨b, off, rfl, hb, hl, hcell⟩ := h.byte hkn
      have hd := ofLe_drop hl
      have hlt : ofLe (l.drop (k + 1)) < 72057594037927936 := by
        have h1 := ofLe_lt (l.drop (k + 1))
        have h2 : (l.drop (k + 1)).length ≤ 7 := by rw [List.length_drop, HL.out]; omega
        have h3 : 256 ^ (l.drop (k + 1)).length ≤ 256 ^ 7 := Nat.pow_le_pow_right (by decide) h2
        have h4 : (256 : Nat) ^ 7 = 72057594037927936 := by decide
        omega
      have HD := Lib.hid hd
      have hi : ((k + 1 : Nat) : Int) - 1 = (k : Int) := by omega
      rw [hi]
      clear hd hi h hb
      generalize ofLe (l.drop (k + 1)) = q at *
      go_wp2
      exact ⟨⟨k, by omega, rfl, by rw [shl8_or q _ hlt, HD.out]⟩, by simp [intOf]⟩
end Go.Proofs.Ytmhgahkainmbkaa
