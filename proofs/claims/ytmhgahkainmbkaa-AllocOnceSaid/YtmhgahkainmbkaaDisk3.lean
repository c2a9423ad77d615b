/- The walks of the disk's fails, Arm, Start, Flush. -/
import Derived.Test.YtmhgahkainmbkaaDisk2
namespace Go.Proofs.Ytmhgahkainmbkaa
open Go.RowKit
set_option linter.unusedVariables false
set_option linter.unusedSimpArgs false

def Disk (w : World) (F : Nat → Prop) (p N : Nat) (D : DiskM) : Prop := (∀ k, F k → k < w.heap.size) ∧ ∃ vs vn vl, DiskAt w F p N D vs vn vl
theorem Disk.ok {w : World} {F : Nat → Prop} {p N : Nat} {D : DiskM} (h : Disk w F p N D) : D.Ok N := by obtain ⟨_, _, _, _, h⟩ := h; exact h.ok
theorem Disk.step {w w' : World} {F G K : Nat → Prop} {p N : Nat} {D : DiskM} (h : Disk w F p N D) (s : Step w w' G K) (hd : ∀ k, F k → ¬ G k) : Disk w' F p N D := by
  obtain ⟨hbd, vs, vn, vl, h⟩ := h; exact ⟨fun k hk => Nat.lt_of_lt_of_le (hbd k hk) s.size, vs, vn, vl, h.step s hd⟩
theorem Disk.free {w w' : World} {F : Nat → Prop} {p N : Nat} {D : DiskM} (h : Disk w F p N D) (hb : Below w.heap.size w w') : Disk w' F p N D := by
  obtain ⟨hbd, vs, vn, vl, h⟩ := h; exact ⟨fun k hk => Nat.lt_of_lt_of_le (hbd k hk) hb.size, vs, vn, vl, h.free hb⟩
theorem Disk.of {w w' : World} {F : Nat → Prop} {p N : Nat} {D : DiskM} {vs vn vl : Value} (hbd : Hid (∀ k, F k → k < w.heap.size)) (hs : w.heap.size ≤ w'.heap.size) (h : DiskAt w' F p N D vs vn vl) : Disk w' F p N D :=
  ⟨fun k hk => Nat.lt_of_lt_of_le (hbd.out k hk) hs, vs, vn, vl, h⟩

/-- A deed, unless power fails in its place. -/
def DiskM.fails (D : DiskM) : Bool := D.armed && D.after == 0
def DiskM.deed (D : DiskM) : DiskM := { D with after := wrap64 (D.after - 1), deeds := wrap64 (D.deeds + 1) }
def DiskM.afterFails (D : DiskM) : DiskM := if D.fails then D.crash D.keep else D.deed

section
variable {w : World} {F : Nat → Prop} {p N : Nat} {D : DiskM}

set_option maxRecDepth 100000 in
theorem fails_any (h : Disk w F p N D) :
    Calls Try.prog 76 #[.pointer (some ⟨p, 0, none⟩)] w fun e w' => e = .returned (.bool D.fails) ∧ Step w w' F F ∧ Disk w' F p N D.afterFails := by
  obtain ⟨hbd0, vs, vn, vl, h⟩ := h
  have HBD := Lib.hid hbd0
  clear hbd0
  obtain ⟨c0, c1, c2, c3, c4, c5, c6, c7, fz⟩ := head_cells h.head
  have hC := crash_any h D.keep
  have HC := Lib.hid hC
  have HH := Lib.hid h
  clear hC h
  have key : (D.fails = true ∧ D.armed = true ∧ (D.after == 0) = true) ∨ (D.fails = false ∧ (D.armed = false ∨ (D.armed = true ∧ (D.after == 0) = false))) := by
    unfold DiskM.fails
    cases D.armed <;> cases (D.after == 0) <;> simp
  rcases key with ⟨hf, ha, h0⟩ | ⟨hf, hc⟩
  · have hA : D.afterFails = D.crash D.keep := by unfold DiskM.afterFails; rw [if_pos hf]
    rw [ha] at c5
    rw [hf, hA]
    clear hf ha hA
    go_enter Try.func76, Try.ntmps76
    go_wp2_with fail
    refine HC.out.mono ?_
    rintro e w' ⟨rfl, hS, vl', hD⟩
    clear c0 c1 c2 c3 c4 c5 c6 c7 fz h0
    go_wp2_with fail
    go_ret
    exact ⟨rfl, hS, .of HBD hS.size hD⟩
  · have hA : D.afterFails = D.deed := by unfold DiskM.afterFails; rw [if_neg (by simp [hf])]
    rw [hf, hA]
    have fin : ∀ w', w' = (w.setCell ⟨p, 6, none⟩ (.int .i64 (wrap64 (D.after - 1)))).setCell ⟨p, 4, none⟩ (.int .i64 (wrap64 (D.deeds + 1))) → Step w w' F F ∧ Disk w' F p N D.deed := by
      rintro w' rfl
      refine ⟨((Step.refl w F).setCell (p := ⟨p, 6, none⟩) (.inl HH.out.foot) _).setCell (p := ⟨p, 4, none⟩) (.inl HH.out.foot) _, .of HBD (by simp [World.setCell]) (vs := vs) (vn := vn) (vl := vl) ?_⟩
      refine HH.out.reHead (fun j hj => ?_) ?_ rfl rfl HH.out.loose HH.out.ok.loose
      · rw [heap_set_far _ _ _ _ _ hj, heap_set_far _ _ _ _ _ hj]
      · exact (HH.out.head.set_ 6 _).set_ 4 _
    have HF := Lib.hid fin
    clear hf hA fin
    rcases hc with ha | ⟨ha, h0⟩
    · rw [ha] at c5
      clear ha
      go_enter Try.func76, Try.ntmps76
      go_wp2_with fail
      go_ret
      exact ⟨rfl, HF.out _ rfl⟩
    · rw [ha] at c5
      clear ha
      go_enter Try.func76, Try.ntmps76
      go_wp2_with fail
      go_ret
      exact ⟨rfl, HF.out _ rfl⟩

/-- Power is bound to fail. -/
def DiskM.arm (D : DiskM) (after : Int) (keep : UInt64) : DiskM := if D.up then { D with armed := decide (0 ≤ after), after := after, keep := keep } else D

def DiskM.start (D : DiskM) : DiskM := { D with up := true }
def DiskM.startE (D : DiskM) : Int := if D.up then 42 else 0

end
end Go.Proofs.Ytmhgahkainmbkaa
