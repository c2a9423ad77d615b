/- The walks of the space by definition: Stage, Take, Free, TakeInode, FreeInode, Count. -/
import Derived.Test.YtmhgahkainmbkaaAllocRef
import Derived.BigQuiet
import Derived.Deep.QuietTactic
namespace Go.Proofs.Ytmhgahkainmbkaa
open Go.RowKit
set_option linter.unusedVariables false
set_option linter.unusedSimpArgs false
theorem list_int_mark (parts : Array (Nat × Value)) (n : Nat) : Instr.buildSlice 53 n parts = ListS 53 n parts := rfl
theorem list_int1 (z : Int) (w : World) : (ListS 53 1 #[(0, .int .i64 z)]).run Try.prog w = .ok (.slice (some ⟨w.heap.size, 0, none⟩) 1 1) (w.alloc (.cells #[.int .i64 z] 3)) := by kernel_rfl
/-- What Stage of the definition leaves. -/
def RefStaged (w : World) (F : Nat → Prop) (pr n : Nat) (r : Option RefM) (R : RefM) (e : Ending) (w' : World) : Prop :=
  (∀ R', r = some R' → e = .returned (.bool true) ∧ ∃ F', Step w w' F F' ∧ RefAt w' F' pr n R') ∧ (r = none → e = .returned (.bool false) ∧ Step w w' F F ∧ RefAt w' F pr n R)
theorem mem_take_succ {l : List Nat} {k i : Nat} (hi : i < l.length) (h1 : k ∉ l.take i) (h2 : l.getD i 0 ≠ k) : k ∉ l.take (i + 1) := by
  rw [List.take_succ_eq_append_getElem hi, List.mem_append]
  rintro (h | h)
  · exact h1 h
  · rw [List.mem_singleton] at h
    exact h2 (by rw [List.getD_eq_getElem?_getD, List.getElem?_eq_getElem hi]; exact h.symm)
section
variable {w w' : World} {F G K : Nat → Prop} {pr n gb cb gi ci : Nat} {sv : Value} {R : RefM}
attribute [local go_sem ↓] list_int_mark appendS_mark
attribute [local go_sem] list_int1
set_option maxRecDepth 100000 in
set_option maxHeartbeats 4000000 in
theorem refStage_any (h : RefAt w F pr n R) (h64 : 64 ≤ n) (hm : n ≤ 1024) (hs : R.stg.length ≤ 4000) (k : Nat) (hk : k ≤ 4000) :
    Calls Try.prog 78 #[.pointer (some ⟨pr, 0, none⟩), .int .i64 (k : Int)] w (RefStaged w F pr n (R.stage n k) R) := by
  obtain ⟨gb, cb, gi, ci, sv, h⟩ := h
  obtain ⟨A, c, rfl, hS⟩ := h.stg.slc
  obtain ⟨c0, c1, c2, c3, c4, c5, c6, c7, c8, c9⟩ := h.cells
  have hfz := h.head.frozen 9
  obtain ⟨f1, f2, f3, f4, f5, f6, f7, f8, f9⟩ := lay_facts h64 hm
  obtain ⟨S, hSt⟩ : ∃ S, S = R.stage n k := ⟨_, rfl⟩
  rw [← hSt]
  have HST := Lib.hid hSt
  have HS := Lib.hid hS
  have H := Lib.hid h
  obtain ⟨m, hmm⟩ : ∃ m, m = R.stg.length := ⟨_, rfl⟩
  rw [← hmm] at c9 hs HS
  have HMM := Lib.hid hmm
  obtain ⟨ll, hll⟩ : ∃ ll, ll = logLen n := ⟨_, rfl⟩
  rw [← hll] at c1 f1 f2
  have HLL := Lib.hid hll
  have hc1 := hS.cmax
  have hc2 := hS.le
  clear hS hSt h f3 f4 f5 f6 f7 f8 f9 c0 c2 c3 c4 c5 c6 c7 c8 hmm hll
  unfold maxLen at hc1
  go_enter Try.func78, Try.ntmps78
  go_wp2_with fail
  go_loop [5] (fun i => ∃ j : Nat, j ≤ m ∧ i = .int .i64 (j : Int) ∧ Hid (k ∉ R.stg.take j)) (fun i => m - (intOf i).toNat)
  case atStart => exact ⟨0, Nat.zero_le _, rfl, Lib.hid (by simp)⟩
  case round =>
    obtain ⟨j, hj, rfl, HN⟩ := hrel
    by_cases hlt : j < m
    · obtain ⟨b, off, rfl, hbw, hcz⟩ := HS.out.at_ (by omega)
      have hjl : j < R.stg.length := by rw [← HMM.out]; exact hlt
      have hcz1 := hcz j (iv (R.stg.getD j 0)) (by rw [List.getElem?_map, List.getElem?_eq_getElem hjl, List.getD_eq_getElem?_getD, List.getElem?_eq_getElem hjl]; rfl)
      obtain ⟨x, hx⟩ : ∃ x, x = R.stg.getD j 0 := ⟨_, rfl⟩
      rw [← hx] at hcz1
      have HX := Lib.hid hx
      have HJL := Lib.hid hjl
      clear hcz hx hjl
      by_cases hxk : x = k
      · have hb : ((x : Int) == (k : Int)) = true := by simp [hxk]
        have HXK := Lib.hid hxk
        clear hxk
        go_wp2_with fail
        go_ret
        have hmem : k ∈ R.stg := by rw [← HXK.out, HX.out, List.getD_eq_getElem?_getD, List.getElem?_eq_getElem HJL.out]; exact List.getElem_mem HJL.out
        refine ⟨fun R' hR => ⟨rfl, F, Step.refl _ _, ?_⟩, fun hR => ?_⟩
        · rw [HST.out] at hR
          unfold RefM.stage at hR
          rw [if_pos hmem] at hR
          injection hR with hR
          subst hR
          exact ⟨_, _, _, _, _, H.out⟩
        · rw [HST.out] at hR
          unfold RefM.stage at hR
          rw [if_pos hmem] at hR
          cases hR
      · have hb : ((x : Int) == (k : Int)) = false := by rw [beq_eq_false_iff_ne]; omega
        have HXK := Lib.hid hxk
        clear hxk
        go_wp2_with fail
        refine ⟨⟨j + 1, by omega, by go_num, Lib.hid (mem_take_succ HJL.out HN.out (by rw [← HX.out]; exact HXK.out))⟩, by simp [intOf]; omega⟩
    · obtain rfl : j = m := by omega
      go_wp2_with fail
      go_loop [7, 8] (fun c i => ∃ q : Nat, q ≤ (j + 60) / 60 ∧ i = .int .i64 ((60 * q : Nat) : Int) ∧ c = .int .i64 ((j + 1 + q : Nat) : Int)) (fun _ i => j + 1 - (intOf i).toNat)
      case atStart => exact ⟨0, Nat.zero_le _, rfl, by go_num⟩
      case round =>
        obtain ⟨q, hq, rfl, rfl⟩ := hrel
        by_cases hlt : 60 * q < j + 1
        · go_wp2_with fail
          refine ⟨⟨q + 1, by omega, by go_num, by go_num⟩, by simp [intOf]; omega⟩
        · have hqe : q = (j + 60) / 60 := by omega
          have hcost : j + 1 + q = costN (j + 1) := by unfold costN; omega
          have hnm : k ∉ R.stg := by have := HN.out; rwa [HMM.out, List.take_length] at this
          have hstage : R.stage n k = if ll - 1 < j + 1 + q then none else some { R with stg := R.stg ++ [k] } := by
            unfold RefM.stage
            rw [if_neg hnm, ← HMM.out, ← hcost, ← HLL.out]
          have HSG := Lib.hid hstage
          have hjl : j ≤ 4000 := hs
          clear hqe hcost hnm hstage
          by_cases hfull : ll - 1 < j + 1 + q
          · have hfb : (ll : Int) - 1 < ((j + 1 + q : Nat) : Int) := by omega
            go_wp2_with fail
            go_ret
            refine ⟨fun R' hR => ?_, fun hR => ⟨rfl, Step.refl _ _, ⟨_, _, _, _, _, H.out⟩⟩⟩
            rw [HST.out, HSG.out, if_pos hfull] at hR
            cases hR
          · obtain ⟨A', c', w', hr, hs', hrow, hkp⟩ := H.out.stg.push (by rw [← HMM.out]; omega) k
            have hfin := H.out.setS hs' (fun _ h => .inl h) hkp (fun x hx => by rcases hx with hx | hx; exact Nat.lt_of_lt_of_le (H.out.lt x hx) hs'.size; exact hx.2) hrow
            have hsf := hs'.setCell (p := ⟨pr, 9, none⟩) (.inl H.out.fp) (.slice A' (R.stg.length + 1) c')
            have hfz' : w'.frozen? ⟨pr, 9, none⟩ = false := (hkp _ _ _ H.out.head (by decide)).frozen 9
            have hc9' : w'.cell? ⟨pr, 9, none⟩ = some (.slice A j c) := by
              have := (hkp _ _ _ H.out.head (by decide)).cell 9
              exact this.trans (H.out.head.cell 9 ▸ c9)
            rw [← HMM.out] at hr hfin hsf
            simp only [iv] at hr
            have HF := Lib.hid (And.intro hfin hsf)
            have hfb : ¬ ((ll : Int) - 1 < ((j + 1 + q : Nat) : Int)) := by omega
            clear hs' hrow hkp hfin hsf
            go_wp2_with fail
            go_ret
            refine ⟨fun R' hR => ⟨rfl, _, HF.out.2, ?_⟩, fun hR => ?_⟩
            · rw [HST.out, HSG.out, if_neg hfull] at hR
              injection hR with hR
              subst hR
              exact ⟨_, _, _, _, _, HF.out.1⟩
            · rw [HST.out, HSG.out, if_neg hfull] at hR
              cases hR
end
end Go.Proofs.Ytmhgahkainmbkaa
