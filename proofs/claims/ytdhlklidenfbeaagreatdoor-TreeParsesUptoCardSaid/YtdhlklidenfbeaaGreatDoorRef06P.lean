/- A path cut name by name, place by place: plain facts for the reference's Path (bootjackref06). -/
import Derived.Test.YtdhlklidenfbeaaGreatDoorTreeP
namespace Go.Proofs.YtdhlklidenfbeaaGreatDoor
set_option linter.unusedVariables false
set_option linter.unusedSimpArgs false

/-- What is known ahead of place k: the names up to place f, and that no slash stands from f to k. -/
structure PathInv (r : Txt) (f k : Nat) (out : List Txt) : Prop where
  names : out.all nameB = true
  split : splitS r = out ++ splitS (r.drop f)
  le : f ≤ k
  len : k ≤ r.length
  free : (47 : UInt8) ∉ (r.drop f).take (k - f)
/-- The name that ends at place k. -/
def nameAt (r : Txt) (f k : Nat) : Txt := (r.drop f).take (k - f)
theorem PathInv.zero (r : Txt) : PathInv r 0 0 [] := ⟨rfl, rfl, Nat.le_refl _, Nat.zero_le _, by simp⟩
theorem drop_at (r : Txt) (f k : Nat) (hf : f ≤ k) (hk : k < r.length) : r.drop f = nameAt r f k ++ r[k] :: r.drop (k + 1) := by
  have h1 : (r.drop f).drop (k - f) = r[k] :: r.drop (k + 1) := by
    rw [List.drop_drop, show f + (k - f) = k by omega, List.drop_eq_getElem_cons hk]
  rw [← h1]
  exact (List.take_append_drop _ _).symm
theorem PathInv.other {r : Txt} {f k : Nat} {out : List Txt} (h : PathInv r f k out) (hk : k < r.length) (hc : r[k] ≠ 47) : PathInv r f (k + 1) out := by
  refine ⟨h.names, h.split, by have := h.le; omega, hk, ?_⟩
  have hd := drop_at r f k h.le hk
  have hn : (nameAt r f k).length = k - f := by unfold nameAt; rw [List.length_take, List.length_drop]; have := h.le; omega
  rw [hd, show k + 1 - f = (nameAt r f k).length + 1 by have := h.le; omega, List.take_length_add_append]
  intro hm
  rcases List.mem_append.1 hm with hm | hm
  · exact h.free hm
  · simp only [List.take_succ_cons, List.take_zero, List.mem_singleton] at hm
    exact hc hm.symm
theorem PathInv.cutEq {r : Txt} {f k : Nat} {out : List Txt} (h : PathInv r f k out) (hk : k < r.length) (hc : r[k] = 47) : splitS r = out ++ nameAt r f k :: splitS (r.drop (k + 1)) := by
  rw [h.split, drop_at r f k h.le hk, hc]
  exact congrArg (out ++ ·) (splitS_cut _ _ h.free)
theorem PathInv.cut {r : Txt} {f k : Nat} {out : List Txt} (h : PathInv r f k out) (hk : k < r.length) (hc : r[k] = 47) (hn : nameB (nameAt r f k) = true) : PathInv r (k + 1) (k + 1) (out ++ [nameAt r f k]) := by
  refine ⟨by rw [List.all_append, h.names]; simp [hn], ?_, Nat.le_refl _, hk, by simp⟩
  rw [h.cutEq hk hc, List.append_assoc]
  rfl
theorem PathInv.endEq {r : Txt} {f k : Nat} {out : List Txt} (h : PathInv r f k out) (hk : k = r.length) : splitS r = out ++ [nameAt r f k] := by
  subst hk
  have e : nameAt r f r.length = r.drop f := by unfold nameAt; rw [List.take_of_length_le (by rw [List.length_drop]; exact Nat.le_refl _)]
  rw [h.split, e]
  congr 1
  refine splitS_none _ ?_
  have := h.free
  rwa [show (r.drop f).take (r.length - f) = r.drop f from e] at this
theorem PathInv.bad {r : Txt} {f k : Nat} {out : List Txt} (h : PathInv r f k out) (hk : k = r.length ∨ ∃ hk : k < r.length, r[k] = 47) (hn : nameB (nameAt r f k) = false) : (splitS r).all nameB = false := by
  rcases hk with hk | ⟨hk, hc⟩
  · rw [h.endEq hk, List.all_append]; simp [hn]
  · rw [h.cutEq hk hc, List.all_append]; simp [hn]
/-- A path of one byte more, by its names. -/
theorem pathNames_slash (r : Txt) (h0 : r ≠ []) (h1 : r.length < 200) : pathNames (47 :: r) = if (splitS r).all nameB = true ∧ (splitS r).length ≤ 16 then some (splitS r) else none := by
  unfold pathNames
  simp only
  rw [if_neg (by simp; omega), if_neg h0]
theorem pathNames_one : pathNames [47] = some [] := by simp [pathNames]
theorem pathNames_refuse {l : Txt} (h : l.length = 0 ∨ 200 < l.length ∨ l[0]? ≠ some 47) : pathNames l = none := by
  unfold pathNames
  cases l with
  | nil => rfl
  | cons c r =>
    simp only
    rw [if_pos]
    rcases h with h | h | h
    · simp at h
    · exact .inr h
    · exact .inl (fun e => h (by rw [e]; rfl))
theorem splitS_mem_length' (r : Txt) : (splitS r).length ≤ r.length + 1 := by
  rw [splitS_length]
  have := List.count_le_length (a := (47 : UInt8)) (l := r)
  omega
/-- An entry by its whole path. -/
theorem entryB_by (x : Ent) : entryB x = (decide (x.path.length ≤ 120 ∧ x.data.length ≤ 2048) && (match pathNames (47 :: x.path) with
    | some l => decide (1 ≤ l.length ∧ l.length ≤ 4)
    | none => false) && (if x.kind = 3 then (pathNames x.data).isSome else decide (x.kind = 1))) := by
  unfold entryB
  by_cases hl : x.path.length ≤ 120 ∧ x.data.length ≤ 2048
  · rw [decide_eq_true hl, Bool.true_and, Bool.true_and]
    congr 1
    by_cases h0 : x.path = []
    · rw [h0, pathNames_one]
      rfl
    · rw [pathNames_slash _ h0 (by omega)]
      by_cases hn : (splitS x.path).all nameB = true
      · by_cases h16 : (splitS x.path).length ≤ 16
        · rw [if_pos ⟨hn, h16⟩, hn, Bool.and_true]
          have := splitS_ne x.path
          have : 1 ≤ (splitS x.path).length := by cases hs : splitS x.path with | nil => exact absurd hs this | cons => simp
          simp only
          rw [Bool.eq_iff_iff, decide_eq_true_iff, decide_eq_true_iff]
          omega
        · rw [if_neg (fun h => h16 h.2), decide_eq_false (by omega)]
          rfl
      · have hn' : (splitS x.path).all nameB = false := by simpa using hn
        rw [if_neg (fun h => hn h.1), hn', Bool.and_false]
  · rw [decide_eq_false hl]
    simp
end Go.Proofs.YtdhlklidenfbeaaGreatDoor
