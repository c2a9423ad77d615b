/- The walk of dirs.Name. -/
import Derived.Test.YtdhlklidenfbeaaGreatDoorSumParse
import Derived.Test.YtdhlklidenfbeaaGreatDoorTreeP
namespace Go.Proofs.YtdhlklidenfbeaaGreatDoor
open Go.RowKit
set_option linter.unusedVariables false
set_option linter.unusedSimpArgs false

theorem letter_cases (c : UInt8) (h : letterB c = false) : (c.toNat < 43 ∨ c.toNat = 44 ∨ c.toNat = 47 ∨ (57 < c.toNat ∧ c.toNat < 65) ∨ (90 < c.toNat ∧ c.toNat < 95) ∨ c.toNat = 96 ∨ 122 < c.toNat) := by
  unfold letterB letterN at h
  have := of_decide_eq_false h
  omega
theorem letter_cases2 (c : UInt8) (h : letterB c = true) : (97 ≤ c.toNat ∧ c.toNat ≤ 122) ∨ (65 ≤ c.toNat ∧ c.toNat ≤ 90) ∨ (48 ≤ c.toNat ∧ c.toNat ≤ 57) ∨ c.toNat = 46 ∨ c.toNat = 95 ∨ c.toNat = 45 ∨ c.toNat = 43 := by
  unfold letterB letterN at h
  exact of_decide_eq_true h
theorem nameB_not {l : List UInt8} (k : Nat) (hk : k < l.length) (h : letterB l[k] = false) : nameB l = false := by
  unfold nameB
  rw [show l.all letterB = false from ?_, Bool.and_false]
  rw [List.all_eq_false]
  exact ⟨l[k], List.getElem_mem hk, by rw [h]; decide⟩
theorem nameB_of {l : List UInt8} (h0 : l ≠ []) (h1 : l.length ≤ 36) (h2 : l ≠ [46]) (h3 : l ≠ [46, 46]) (h : (l.take l.length).all letterB = true) : nameB l = true := by
  unfold nameB
  rw [List.take_length] at h
  rw [h, decide_eq_true ⟨h0, h1, h2, h3⟩]
  rfl

set_option maxRecDepth 100000 in
set_option maxHeartbeats 1000000 in
theorem name_any (s : ByteArray) (w : World) (hs : s.size ≤ maxLen) :
    Calls Tryz.prog 71 #[.string s] w fun e w' => e = .returned (.bool (nameB s.data.toList)) ∧ Below w.heap.size w w' := by
  have hsz : s.data.toList.length = s.size := by rw [Array.length_toList]; rfl
  have ht : s.toList = s.data.toList := Go.ByteArray.toList_eq s
  obtain ⟨cap, w1, hcv, hb1, hz1, hS⟩ := convert_string Tryz.underlying9 Tryz.underlying32 Tryz.underlying5 w s hs
  generalize hl : s.data.toList = l at *
  clear hl
  have hN : ¬ (l ≠ [] ∧ l.length ≤ 36 ∧ l ≠ [46] ∧ l ≠ [46, 46]) → nameB l = false := fun h => by unfold nameB; rw [decide_eq_false h]; rfl
  by_cases hlong : 36 < s.size
  · have H := Lib.hid (hN (by omega))
    have h0 : l ≠ [] := by rintro rfl; simp at hsz; omega
    have h0' : l.isEmpty = false := by cases l with | nil => exact absurd rfl h0 | cons => rfl
    clear hN hsz hcv hS
    go_enter Tryz.func71, Tryz.ntmps71
    go_wp2
    go_ret
    exact ⟨by rw [H.out]; rfl, Below.refl _ _⟩
  by_cases h0 : l = []
  · have H := Lib.hid (hN (fun h => h.1 h0))
    subst h0
    clear hN hsz hcv hS
    go_enter Tryz.func71, Tryz.ntmps71
    go_wp2
    go_ret
    exact ⟨by rw [H.out]; rfl, Below.refl _ _⟩
  by_cases h1 : l = [46]
  · have H := Lib.hid (hN (fun h => h.2.2.1 h1))
    subst h1
    have hle : s.size = 1 := by simpa using hsz.symm
    clear hN hsz hcv hS
    go_enter Tryz.func71, Tryz.ntmps71
    go_wp2
    go_ret
    exact ⟨by rw [H.out]; rfl, Below.refl _ _⟩
  by_cases h2 : l = [46, 46]
  · have H := Lib.hid (hN (fun h => h.2.2.2 h2))
    subst h2
    have hle : s.size = 2 := by simpa using hsz.symm
    clear hN hsz hcv hS
    go_enter Tryz.func71, Tryz.ntmps71
    go_wp2
    go_ret
    exact ⟨by rw [H.out]; rfl, Below.refl _ _⟩
  have h0' : l.isEmpty = false := by cases l with | nil => exact absurd rfl h0 | cons => rfl
  have h1' : (l == [46]) = false := by simpa using h1
  have h2' : (l == [46, 46]) = false := by simpa using h2
  have hle : s.size ≤ 36 := by omega
  have hYES := Lib.hid (fun h => nameB_of (l := l) h0 (by omega) h1 h2 h)
  have hNO := Lib.hid (fun k hk h => nameB_not (l := l) k hk h)
  have HZ := Lib.hid hsz
  have HZ1 := Lib.hid hz1
  clear hN hsz hz1 hlong
  go_enter Tryz.func71, Tryz.ntmps71
  go_wp2
  go_loop [24] (fun i => ∃ k : Nat, k ≤ s.size ∧ i = .int .i64 (k : Int) ∧ (l.take k).all letterB = true) (fun i => s.size - (intOf i).toNat)
  case atStart => exact ⟨0, by omega, rfl, rfl⟩
  case round =>
    obtain ⟨k, hk, rfl, hv⟩ := hrel
    have HV := Lib.hid hv
    clear hv
    by_cases hlt : k < s.size
    · obtain ⟨b, off, e, hb, hlk, hc⟩ := hS.byte hlt
      obtain ⟨rfl, rfl, _⟩ : b = w.heap.size ∧ off = 0 ∧ True := by injection e with e; injection e with e1 e2; exact ⟨e1.symm, e2.symm, trivial⟩
      rw [Nat.zero_add] at hc
      have HT := Lib.hid (show (l.take (k + 1)).all letterB = letterB l[k] by rw [List.take_succ_eq_append_getElem hlk, List.all_append, HV.out]; simp)
      have HK := Lib.hid (fun h => hNO.out k hlk h)
      generalize l[k] = c at *
      have hc2 : (c.toNat : Int) < 256 := by have := u8_lt c; omega
      clear e
      cases hlet : letterB c with
      | true =>
        have H3 := Lib.hid (HT.out.trans hlet)
        rcases letter_cases2 c hlet with ⟨h3, h4⟩ | ⟨h3, h4⟩ | ⟨h3, h4⟩ | h3 | h3 | h3 | h3
        all_goals
          clear hlet
          go_wp2
          exact ⟨⟨k + 1, by omega, by go_num, H3.out⟩, by simp [intOf]; omega⟩
      | false =>
        have H3 := Lib.hid (HK.out hlet)
        have n1 : ((c.toNat : Int) != 46) = true := by have := letter_cases c hlet; simp; omega
        have n2 : ((c.toNat : Int) != 95) = true := by have := letter_cases c hlet; simp; omega
        have n3 : ((c.toNat : Int) != 45) = true := by have := letter_cases c hlet; simp; omega
        have n4 : ((c.toNat : Int) != 43) = true := by have := letter_cases c hlet; simp; omega
        rcases letter_cases c hlet with h3 | h3 | h3 | ⟨h3, h4⟩ | ⟨h3, h4⟩ | h3 | h3
        all_goals
          clear hlet
          go_wp2
          all_goals first
            | (go_ret
               exact ⟨by rw [H3.out]; rfl, hb1⟩)
            | (rename_i hx
               simp [n1, n2, n3, n4] at hx <;> (exfalso; omega))
    · have HY := Lib.hid (hYES.out (by rw [show l.length = k by have := HZ.out; omega]; exact HV.out))
      go_wp2
      go_ret
      exact ⟨by rw [HY.out]; rfl, hb1⟩
end Go.Proofs.YtdhlklidenfbeaaGreatDoor
