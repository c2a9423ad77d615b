/- The log as plain data, and how it lies in memory; the walks of its small methods. -/
import Derived.Test.YtmhgahkainmbkaaWalMap
namespace Go.Proofs.Ytmhgahkainmbkaa
open Go.RowKit
set_option linter.unusedVariables false
set_option linter.unusedSimpArgs false

structure LogM where
  base : Nat
  n : Nat
  epoch : Nat
  used : Nat
  sum : Nat
  over : SecMap
  staged : SecMap
  dead : Bool

/-- A log that may be, on a disk of N sectors. -/
structure LogM.Ok (L : LogM) (N : Nat) : Prop where
  most : N ≤ 1024
  n4 : 4 ≤ L.n
  n255 : L.n ≤ 255
  fits : L.base + L.n ≤ N
  epoch : L.epoch < 18446744073709551616
  used : L.used < L.n
  sum : L.sum < 18446744073709551616

def homeB (N : Nat) (L : LogM) (i : Int) : Bool := decide (0 ≤ i ∧ i < N ∧ (i < L.base ∨ (L.base : Int) + L.n ≤ i))
def HomeMap (N : Nat) (L : LogM) (m : SecMap) : Prop := ∀ x ∈ m, homeB N L (x.1 : Int) = true ∧ x.2.length = 128

/-- How it lies: its head in block p, its maps in blocks go and gs, over the disk at pd. -/
structure LogAt (w : World) (p go gs pd N : Nat) (L : LogM) : Prop where
  ok : L.Ok N
  head : Blk w p 77 #[.pointer (some ⟨pd, 0, none⟩), .int .i64 (L.base : Int), .int .i64 (L.n : Int), .int .u64 (L.epoch : Int), .int .i64 (L.used : Int), .int .u64 (L.sum : Int), .map (some go), .map (some gs), .bool L.dead]
  over : MapAt w go L.over
  staged : MapAt w gs L.staged
  apart : go ≠ gs
  overOk : HomeMap N L L.over
  stagedOk : HomeMap N L L.staged

def Foot (p go gs : Nat) : Nat → Prop := fun k => k = p ∨ k = go ∨ k = gs
section
variable {w w' : World} {p go gs pd N : Nat} {L : LogM} {F G : Nat → Prop}
theorem LogAt.step (h : LogAt w p go gs pd N L) (s : Step w w' F G) (hn : ∀ k, Foot p go gs k → ¬ F k) : LogAt w' p go gs pd N L :=
  ⟨h.ok, h.head.step s (hn p (.inl rfl)), h.over.step s (hn go (.inr (.inl rfl))), h.staged.step s (hn gs (.inr (.inr rfl))), h.apart, h.overOk, h.stagedOk⟩
theorem LogAt.free (h : LogAt w p go gs pd N L) (hb : Below w.heap.size w w') : LogAt w' p go gs pd N L :=
  h.step (Step.of_below hb (fun _ => False)) (fun _ _ h => h)
theorem LogAt.lt (h : LogAt w p go gs pd N L) : ∀ k, Foot p go gs k → k < w.heap.size := by
  rintro k (rfl | rfl | rfl)
  · exact h.head.lt
  · exact h.over.lt
  · exact h.staged.lt
theorem LogAt.p_go (h : LogAt w p go gs pd N L) : go ≠ p := h.over.far h.head
theorem LogAt.p_gs (h : LogAt w p go gs pd N L) : gs ≠ p := h.staged.far h.head
theorem log_cells {a0 a1 a2 a3 a4 a5 a6 a7 a8 : Value} {t : TypeId} (h : Blk w p t #[a0, a1, a2, a3, a4, a5, a6, a7, a8]) :
    w.cell? ⟨p, 0, none⟩ = some a0 ∧ w.cell? ⟨p, 1, none⟩ = some a1 ∧ w.cell? ⟨p, 2, none⟩ = some a2 ∧ w.cell? ⟨p, 3, none⟩ = some a3 ∧ w.cell? ⟨p, 4, none⟩ = some a4 ∧ w.cell? ⟨p, 5, none⟩ = some a5 ∧ w.cell? ⟨p, 6, none⟩ = some a6 ∧ w.cell? ⟨p, 7, none⟩ = some a7 ∧ w.cell? ⟨p, 8, none⟩ = some a8 ∧
      (∀ i, w.frozen? ⟨p, i, none⟩ = false) :=
  ⟨h.cell 0, h.cell 1, h.cell 2, h.cell 3, h.cell 4, h.cell 5, h.cell 6, h.cell 7, h.cell 8, h.frozen⟩

theorem llen_any (h : LogAt w p go gs pd N L) :
    Calls Try.prog 40 #[.pointer (some ⟨p, 0, none⟩)] w fun e w' => e = .returned (.int .i64 ((L.n - 1 : Nat) : Int)) ∧ w = w' := by
  obtain ⟨c0, c1, c2, c3, c4, c5, c6, c7, c8, fz⟩ := log_cells h.head
  have h4 := h.ok.n4
  have h5 := h.ok.n255
  have e : ((L.n - 1 : Nat) : Int) = (L.n : Int) - 1 := by omega
  rw [e]
  clear h e
  go_enter Try.func40, Try.ntmps40
  go_wp2
  go_ret
  exact ⟨rfl, rfl⟩
section
attribute [local go_sem ↓] len_map_mark clear_mark
/-- The step of a map that is written. -/
theorem LogAt.putStaged (h : LogAt w p go gs pd N L) {o : Obj} {m : SecMap} (hm : MapAt (objSet w gs o) gs m) (hk : HomeMap N L m) : LogAt (objSet w gs o) p go gs pd N { L with staged := m } :=
  ⟨⟨h.ok.most, h.ok.n4, h.ok.n255, h.ok.fits, h.ok.epoch, h.ok.used, h.ok.sum⟩, (objSet_far (Ne.symm h.p_gs) o).trans h.head, h.over.kept (objSet_far h.apart o), hm, h.apart, h.overOk, hk⟩
theorem LogAt.putOver (h : LogAt w p go gs pd N L) {o : Obj} {m : SecMap} (hm : MapAt (objSet w go o) go m) (hk : HomeMap N L m) : LogAt (objSet w go o) p go gs pd N { L with over := m } :=
  ⟨⟨h.ok.most, h.ok.n4, h.ok.n255, h.ok.fits, h.ok.epoch, h.ok.used, h.ok.sum⟩, (objSet_far (Ne.symm h.p_go) o).trans h.head, hm, h.staged.kept (objSet_far (Ne.symm h.apart) o), h.apart, hk, h.stagedOk⟩
theorem drop_any (h : LogAt w p go gs pd N L) :
    Calls Try.prog 16 #[.pointer (some ⟨p, 0, none⟩)] w fun e w' => e = .returned (.tuple #[]) ∧ LogAt w' p go gs pd N { L with staged := [] } ∧ Step w w' (Foot p go gs) (Foot p go gs) := by
  obtain ⟨c0, c1, c2, c3, c4, c5, c6, c7, c8, fz⟩ := log_cells h.head
  obtain ⟨o, hr, hm⟩ := ClearS.ok h.staged
  have H := Lib.hid (h.putStaged hm (fun x hx => by cases hx))
  have HS := Lib.hid ((Step.refl w (Foot p go gs)).objSet (g := gs) (.inl (.inr (.inr rfl))) o)
  clear h hm
  generalize objSet w gs o = W at *
  go_enter Try.func16, Try.ntmps16
  go_wp2
  go_end0
  exact ⟨rfl, H.out, HS.out⟩
end
theorem dLen {Fd : Nat → Prop} {D : DiskM} (h : Disk w Fd pd N D) : Calls Try.prog 69 #[.pointer (some ⟨pd, 0, none⟩)] w fun e w' => e = .returned (.int .i64 (N : Int)) ∧ w' = w := by
  obtain ⟨_, _, _, _, hd⟩ := h
  exact (len_any hd).mono fun _ _ h => ⟨h.1, h.2.symm⟩
theorem below_drewN (B : Nat) (w : World) (n : Nat) : Below B w (w.drewN n) := ⟨rfl, rfl, rfl, Nat.le_refl _, fun _ _ => rfl⟩
set_option maxHeartbeats 1000000 in
/-- home: is a sector one? -/
theorem home_any {Fd : Nat → Prop} {D : DiskM} (h : LogAt w p go gs pd N L) (hd : Disk w Fd pd N D) (i : Int) (hi : -9223372036854775808 ≤ i ∧ i ≤ 9223372036854775807) :
    Calls Try.prog 36 #[.pointer (some ⟨p, 0, none⟩), .int .i64 i] w fun e w' => e = .returned (.bool (homeB N L i)) ∧ ∃ n, w' = w.drewN n := by
  obtain ⟨c0, c1, c2, c3, c4, c5, c6, c7, c8, fz⟩ := log_cells h.head
  have hN := h.ok.most
  have hn := h.ok.n255
  have hf := h.ok.fits
  have HL := Lib.hid (fun n : Nat => dLen (hd.free (below_drewN _ w n)))
  obtain ⟨hi1, hi2⟩ := hi
  have hs : IntKind.i64.wrap ((L.base : Int) + (L.n : Int)) = (L.base : Int) + (L.n : Int) := IntWalk.i64_in _ (by omega)
  clear h hd
  by_cases h0 : 0 ≤ i
  · have d0 : decide (0 ≤ i) = true := decide_eq_true h0
    by_cases h1 : i < (N : Int)
    · have d1 : decide (i < (N : Int)) = true := decide_eq_true h1
      by_cases h2 : i < (L.base : Int)
      · have d2 : decide (i < (L.base : Int)) = true := decide_eq_true h2
        rw [show homeB N L i = true from by unfold homeB; rw [decide_eq_true_eq]; omega]
        clear hi1 hi2 hN hn hf
        go_enter Try.func36, Try.ntmps36
        go_wp2_with fail
        go_quiet ((go_at_call 69; exact Calls.quiet_of_same (HL.out _)))
        go_wp2
        go_ret
        exact ⟨rfl, _, rfl⟩
      · have d2 : decide (i < (L.base : Int)) = false := decide_eq_false h2
        by_cases h3 : (L.base : Int) + (L.n : Int) ≤ i
        · have d3 : decide ((L.base : Int) + (L.n : Int) ≤ i) = true := decide_eq_true h3
          rw [show homeB N L i = true from by unfold homeB; rw [decide_eq_true_eq]; omega]
          clear hi1 hi2 hN hn hf
          go_enter Try.func36, Try.ntmps36
          go_wp2_with fail
          go_quiet ((go_at_call 69; exact Calls.quiet_of_same (HL.out _)))
          go_wp2
          go_ret
          exact ⟨rfl, _, rfl⟩
        · have d3 : decide ((L.base : Int) + (L.n : Int) ≤ i) = false := decide_eq_false h3
          rw [show homeB N L i = false from by unfold homeB; rw [decide_eq_false_iff_not]; omega]
          clear hi1 hi2 hN hn hf
          go_enter Try.func36, Try.ntmps36
          go_wp2_with fail
          go_quiet ((go_at_call 69; exact Calls.quiet_of_same (HL.out _)))
          go_wp2
          go_ret
          exact ⟨rfl, _, rfl⟩
    · have d1 : decide (i < (N : Int)) = false := decide_eq_false h1
      rw [show homeB N L i = false from by unfold homeB; rw [decide_eq_false_iff_not]; omega]
      clear hi1 hi2 hN hn hf
      go_enter Try.func36, Try.ntmps36
      go_wp2_with fail
      go_quiet ((go_at_call 69; exact Calls.quiet_of_same (HL.out _)))
      go_wp2
      go_ret
      exact ⟨rfl, _, rfl⟩
  · have d0 : decide (0 ≤ i) = false := decide_eq_false h0
    rw [show homeB N L i = false from by unfold homeB; rw [decide_eq_false_iff_not]; omega]
    clear hi1 hi2 hN hn hf
    go_enter Try.func36, Try.ntmps36
    go_wp2_with fail
    go_quiet (fail)
    go_wp2
    go_ret
    exact ⟨rfl, _, rfl⟩
theorem LogAt.setDead (h : LogAt w p go gs pd N L) (b : Bool) : LogAt (w.setCell ⟨p, 8, none⟩ (.bool b)) p go gs pd N { L with dead := b } :=
  ⟨⟨h.ok.most, h.ok.n4, h.ok.n255, h.ok.fits, h.ok.epoch, h.ok.used, h.ok.sum⟩, h.head.set_ 8 _, h.over.kept (heap_set_far _ _ _ _ _ h.p_go), h.staged.kept (heap_set_far _ _ _ _ _ h.p_gs), h.apart, h.overOk, h.stagedOk⟩
set_option maxHeartbeats 1000000 in
theorem ended_any (h : LogAt w p go gs pd N L) (e : Int) :
    Calls Try.prog 38 #[.pointer (some ⟨p, 0, none⟩), .int .i64 e] w fun e' w' => e' = .returned (.int .i64 e) ∧ LogAt w' p go gs pd N { L with dead := L.dead || e == 41 || e == 40 } ∧ Step w w' (Foot p go gs) (Foot p go gs) := by
  obtain ⟨c0, c1, c2, c3, c4, c5, c6, c7, c8, fz⟩ := log_cells h.head
  have H := Lib.hid (fun b => h.setDead b)
  have HS := Lib.hid (fun b : Bool => (Step.refl w (Foot p go gs)).setCell (p := ⟨p, 8, none⟩) (.inl (.inl rfl)) (.bool b))
  clear h
  obtain ⟨b, hb⟩ : ∃ b, b = L.dead := ⟨_, rfl⟩
  rw [← hb] at c8 ⊢
  clear hb
  cases b
  · by_cases h1 : e = 41
    · subst h1
      go_enter Try.func38, Try.ntmps38
      go_wp2
      go_ret
      exact ⟨rfl, H.out _, HS.out _⟩
    · have d1 : (e == 41) = false := by simpa using h1
      go_enter Try.func38, Try.ntmps38
      go_wp2
      go_ret
      rw [d1]
      exact ⟨rfl, H.out _, HS.out _⟩
  · go_enter Try.func38, Try.ntmps38
    go_wp2
    go_ret
    exact ⟨rfl, H.out _, HS.out _⟩
theorem cost_any (k : Nat) (hk : k ≤ 1000000) (w : World) :
    Calls Try.prog 39 #[.int .i64 (k : Int)] w fun e w' => e = .returned (.int .i64 ((k + (k + 59) / 60 : Nat) : Int)) ∧ w = w' := by
  have e : ((k + (k + 59) / 60 : Nat) : Int) = (k : Int) + ((k : Int) + 60 - 1) / 60 := by omega
  rw [e]
  clear e
  go_enter Try.func39, Try.ntmps39
  go_wp2
  go_ret
  exact ⟨rfl, rfl⟩
end
end Go.Proofs.Ytmhgahkainmbkaa
