/- Store paths that stand in a text: plain facts for the law TreeRefs, with no program in sight. -/
import Derived.Test.YtdhlklidenfbeaaDoorTreeP
namespace Go.Proofs.YtdhlklidenfbeaaDoor
set_option linter.unusedVariables false
set_option linter.unusedSimpArgs false

theorem path_made (n : Nat) (t : Txt) (h0 : t ≠ []) (h1 : t.length ≤ 19) (h2 : t.all letterB = true) : pathB (slash7 ++ hexl 16 n ++ [45] ++ t) = true := by
  have hl := hexl_length 16 n
  have hs : slash7.length = 7 := rfl
  have hp : 0 < t.length := List.length_pos_iff.2 h0
  unfold pathB
  rw [Bool.and_eq_true, Bool.and_eq_true, decide_eq_true_iff, headB_iff]
  refine ⟨⟨⟨?_, ?_, ?_, ?_⟩, ?_⟩, ?_⟩
  · rw [List.append_assoc, List.append_assoc, List.take_left' hs]
  · simp only [List.length_append, hl, hs, List.length_cons, List.length_nil]; omega
  · rw [List.append_assoc, List.append_assoc, List.drop_left' hs, List.take_left' hl]
    unfold parsed
    rw [if_pos hl, hexVal_hexl]
    rfl
  · rw [List.append_assoc, List.getElem?_append_right (by simp only [List.length_append, hl, hs]; omega)]
    simp only [List.length_append, hl, hs]
    rfl
  · simp only [List.length_append, hl, hs, List.length_cons, List.length_nil]; omega
  · rw [List.drop_left' (by simp only [List.length_append, hl, hs, List.length_cons, List.length_nil])]
    exact h2

theorem takeWhile_app {α : Type} (p : α → Bool) : ∀ (l : List α) (c : α) (r : List α), l.all p = true → p c = false → (l ++ c :: r).takeWhile p = l
  | [], c, r, _, hc => by rw [List.nil_append, List.takeWhile_cons_of_neg (by rw [hc]; decide)]
  | x :: l, c, r, h, hc => by
    rw [List.all_cons, Bool.and_eq_true] at h
    rw [List.cons_append, List.takeWhile_cons_of_pos h.1, takeWhile_app p l c r h.2 hc]

/-- A store path that no letter goes on is told whole. -/
theorem refP_ends (p rest : Txt) (hp : pathB p = true) (c : UInt8) (hc : letterB c = false) : refP (p ++ c :: rest) = p := by
  have hl := pathB_len hp
  have h1 : headB (p ++ c :: rest) = true := by
    have h := headB_take (p ++ c :: rest) p.length hl.1 (by rw [List.length_append]; omega)
    rw [List.take_left' rfl] at h
    rw [← h]
    unfold pathB at hp
    rw [Bool.and_eq_true, Bool.and_eq_true] at hp
    exact hp.1.1
  have h2 : tailN (p ++ c :: rest) = p.length - 24 := by
    unfold tailN
    unfold pathB at hp
    rw [Bool.and_eq_true, Bool.and_eq_true] at hp
    rw [List.drop_append_of_le_length (by omega), takeWhile_app letterB _ c rest hp.2 hc, List.length_drop]
    omega
  unfold refP
  rw [if_pos ⟨h1, by omega⟩, h2, show 24 + (p.length - 24) = p.length by omega, List.take_left' rfl]

theorem refs_found (a p rest : Txt) (hp : pathB p = true) (c : UInt8) (hc : letterB c = false) : p ∈ addAll [] (refsAll [a ++ p ++ c :: rest]) := by
  have hl := pathB_len hp
  rw [mem_addAll]
  refine .inr ?_
  unfold refsAll refsOne
  rw [List.flatMap_cons, List.flatMap_nil, List.append_nil, mem_refsTo]
  refine ⟨a.length, by simp only [List.length_append, List.length_cons]; omega, ?_, fun e => by rw [e] at hl; simp at hl⟩
  rw [List.append_assoc, List.drop_left' rfl]
  exact refP_ends p rest hp c hc

/-- A text stands in another at one of the first k places. -/
def inTo (d r : Txt) (k : Nat) : Bool := (List.range k).any fun j => decide ((d.drop j).take r.length = r)
theorem inTo_zero (d r : Txt) : inTo d r 0 = false := rfl
theorem inTo_succ (d r : Txt) (k : Nat) : inTo d r (k + 1) = (inTo d r k || decide ((d.drop k).take r.length = r)) := by
  unfold inTo
  rw [List.range_succ, List.any_append]
  simp
theorem inTo_mono (d r : Txt) {k m : Nat} (h : k ≤ m) (hk : inTo d r k = true) : inTo d r m = true := by
  unfold inTo at *
  rw [List.any_eq_true] at *
  obtain ⟨x, hx, hp⟩ := hk
  exact ⟨x, by rw [List.mem_range] at *; omega, hp⟩

theorem refs_stands (d r : Txt) (h : r ∈ addAll [] (refsAll [d])) : pathB r = true ∧ r.length ≤ d.length ∧ inTo d r (d.length + 1 - r.length) = true := by
  rw [mem_addAll] at h
  rcases h with h | h
  · cases h
  unfold refsAll refsOne at h
  rw [List.flatMap_cons, List.flatMap_nil, List.append_nil, mem_refsTo] at h
  obtain ⟨i, hi, hr, hne⟩ := h
  have hp := refP_pre (d.drop i)
  rw [hr] at hp
  have hlen := hp.length_le
  rw [List.length_drop] at hlen
  refine ⟨by rw [← hr]; exact refP_path _ (by rw [hr]; exact hne), by omega, ?_⟩
  unfold inTo
  rw [List.any_eq_true]
  exact ⟨i, List.mem_range.2 (by omega), decide_eq_true (List.prefix_iff_eq_take.1 hp).symm⟩

/-- The letters that the law puts behind a path's head. -/
def ends13 : Txt := [97, 98, 99, 88, 89, 90, 48, 49, 57, 46, 95, 45, 43]
def tailC (e : Txt) (i : Nat) : UInt8 := match e[i]? with
  | some c => ends13.getD (c.toNat % 13) 101
  | none => 101
def tailL (e : Txt) (k : Nat) : Txt := (List.range k).map (tailC e)
theorem tailL_zero (e : Txt) : tailL e 0 = [] := rfl
theorem tailL_succ (e : Txt) (k : Nat) : tailL e (k + 1) = tailL e k ++ [tailC e k] := by unfold tailL; rw [List.range_succ, List.map_append]; rfl
theorem tailL_length (e : Txt) (k : Nat) : (tailL e k).length = k := by simp [tailL]
theorem tailC_letter (e : Txt) (i : Nat) : letterB (tailC e i) = true := by
  unfold tailC
  split
  · rename_i c _
    have : ∀ n : Fin 13, letterB (ends13.getD n.1 101) = true := by decide
    exact this ⟨c.toNat % 13, Nat.mod_lt _ (by decide)⟩
  · decide
theorem tailL_all (e : Txt) (k : Nat) : (tailL e k).all letterB = true := by
  rw [List.all_eq_true]
  intro x hx
  obtain ⟨i, _, rfl⟩ := List.mem_map.1 hx
  exact tailC_letter e i
def hitTo (l : List Txt) (p : Txt) (k : Nat) : Bool := (l.take k).any fun x => decide (x = p)
theorem hitTo_succ (l : List Txt) (p : Txt) (k : Nat) (h : k < l.length) : hitTo l p (k + 1) = (hitTo l p k || decide (l[k] = p)) := by
  unfold hitTo
  rw [List.take_succ_eq_append_getElem h, List.any_append]
  simp
theorem hitTo_all (l : List Txt) (p : Txt) (h : p ∈ l) : hitTo l p l.length = true := by
  unfold hitTo
  rw [List.take_length, List.any_eq_true]
  exact ⟨p, h, by simp⟩
theorem dig_at (n : Nat) (h : n < 16) : ∀ h' : n < (ByteArray.mk #[48, 49, 50, 51, 52, 53, 54, 55, 56, 57, 97, 98, 99, 100, 101, 102]).size, (ByteArray.mk #[48, 49, 50, 51, 52, 53, 54, 55, 56, 57, 97, 98, 99, 100, 101, 102])[n] = dig n := by
  have : ∀ k : Fin 16, (ByteArray.mk #[48, 49, 50, 51, 52, 53, 54, 55, 56, 57, 97, 98, 99, 100, 101, 102])[k.1]'k.2 = dig k.1 := by decide
  intro h'
  exact this ⟨n, h⟩
end Go.Proofs.YtdhlklidenfbeaaDoor
