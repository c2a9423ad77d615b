/- A number's text, and what stays beside a writer of bytes. -/
import Derived.Test.YtdhlklidenfbeaaGreatDoorBase
import Derived.Test.YtdhlklidenfbeaaGreatDoorLayB
import Derived.Lib.OthersKept
import Derived.Lib.ItoaLen
namespace Go.Proofs.YtdhlklidenfbeaaGreatDoor
open Go.RowKit Go.Sort
set_option linter.unusedVariables false
set_option linter.unusedSimpArgs false

/-- What is asked of a number's text. -/
structure ItoaOk (w : World) (n : Int) : Prop where
  run : ∀ w', Below w.heap.size w w' → Calls Tryz.prog 27 #[.int .i64 n] w' fun e w'' => e = .returned (.string ⟨(Lib.itoa n).toArray⟩) ∧ Below w'.heap.size w' w''
  short : (Lib.itoa n).length ≤ 1000
theorem itoa_small (w : World) (n : Nat) (h : n < 100) : ItoaOk w (n : Int) := by
  have h0 : ¬ (n : Int) < 0 := by omega
  refine ⟨fun w' _ => (Tryz.strconv_Itoa_small n h w').mono ?_, ?_⟩
  · rintro e w'' ⟨rfl, hw⟩
    obtain rfl := hw.symm
    refine ⟨?_, Below.refl _ _⟩
    unfold Lib.itoa
    rw [if_neg h0]
    rfl
  · unfold Lib.itoa
    rw [if_neg h0]
    show (Lib.decDigits n).length ≤ 1000
    by_cases h1 : n < 10
    · rw [Lib.decDigits_one h1]; simp
    · rw [Lib.decDigits_two h1 h]; simp
theorem blk_others {w w' : World} {b g : Nat} {t : TypeId} {cs : Array Value} (h : Blk w g t cs) (hk : Lib.OthersKept 5 (some b) w w') (hg : g ≠ b) (ht : t ≠ 5) : Blk w' g t cs :=
  hk g _ h (fun e => hg (Option.some.inj e)) (fun c fz e => by injection e with _ e2 _; exact ht e2)

theorem below_drewN {B : Nat} (w : World) (k : Nat) : Below B w (w.drewN k) := ⟨rfl, rfl, rfl, Nat.le_refl _, fun _ _ => rfl⟩
theorem below_grown (w : World) (k : Nat) (os : Array Obj) : Below w.heap.size w (grow (w.drewN k) os) :=
  ⟨rfl, rfl, rfl, by simp [grow], fun i hi => by simp [grow, Array.getElem?_append, hi]⟩
theorem itoa_len (n : Nat) (h : n < 100000) : (Lib.itoa (n : Int)).length ≤ 1000 := Nat.le_trans (Lib.itoa_length_le n (by omega) (by omega)) (by decide)
/-- The text of any number, where the table of tens lies as it was laid. -/
theorem itoa_tab (w : World) (n : Nat) (h : n < 100000) (htab : ∀ w', Below w.heap.size w w' → Lib.TabIs Tryz.prog w' "internal/strconv.uint64pow10" .u64 Lib.pow10Tab) : ItoaOk w (n : Int) := by
  refine ⟨fun w' hw => (Tryz.strconv_Itoa (n : Int) (by omega) (by omega) w' (htab w' hw)).mono ?_, itoa_len n h⟩
  rintro e w'' ⟨rfl, k, os, rfl⟩
  exact ⟨rfl, below_grown _ k os⟩
end Go.Proofs.YtdhlklidenfbeaaGreatDoor
