/- The walk of shown (bootjacklaw08): the document's examples. -/
import Derived.Test.YtdhlklidenfbeaaGreatDoorBytes
namespace Go.Proofs.YtdhlklidenfbeaaGreatDoor
open Go.RowKit Go.Shelf
set_option linter.unusedVariables false
set_option linter.unusedSimpArgs false

theorem ents_new (w : World) (es : List EV) (n : Nat) (hn : es.length = n) (hm : n ≤ 1000) (hd : ∀ e ∈ es, Slc w w.heap.size 1 e.A e.n e.c (e.data.map bv)) :
    EntsAt (w.alloc (.cells (es.flatMap evCells).toArray 73)) (w.heap.size + 1) (some ⟨w.heap.size, 0, none⟩) n n es := by
  have hfl : (es.flatMap evCells).length = n * 3 := by
    rw [← hn]
    clear hd hn hm
    induction es with
    | nil => rfl
    | cons x es ih => rw [List.flatMap_cons, List.length_append, ih, evCells_length, List.length_cons]; omega
  have h1 := slc_new w 73 (0, 0) (es.flatMap evCells).toArray (sz := 3) (n := n) (c := n) (by simpa using hfl) (Nat.le_refl _) (by unfold maxLen; omega)
  exact ⟨h1, hn, fun e he => ((hd e he).below ((Below.refl _ w).alloc (Nat.le_refl _) _)).more (by omega)⟩
theorem data_new (w : World) (t : Txt) (n : Nat) (hn : t.length = n) (hm : n ≤ 1000) : Slc (w.alloc (.cells (t.map bv).toArray 5)) (w.heap.size + 1) 1 (some ⟨w.heap.size, 0, none⟩) n n (t.map bv) := by
  have := slc_new w 5 (0, 0) (t.map bv).toArray (sz := 1) (n := n) (c := n) (by simp; omega) (Nat.le_refl _) (by unfold maxLen; omega)
  simpa using this

def sh1 (g0 g1 : Nat) : List EV := [⟨[97], 1, [120], some ⟨g0, 0, none⟩, 1, 1⟩, ⟨[98, 47, 99], 3, [47, 122], some ⟨g1, 0, none⟩, 2, 2⟩]
def shD : Txt := [120, 47, 115, 116, 111, 114, 101, 47, 48, 49, 50, 51, 52, 53, 54, 55, 56, 57, 97, 98, 99, 100, 101, 102, 45, 97, 32, 98, 47, 115, 116, 111, 114, 101, 47, 48, 49, 50, 51, 52, 53, 54, 55, 56, 57, 97, 98, 99, 100, 101, 102, 45]
def shP : Txt := [47, 115, 116, 111, 114, 101, 47, 48, 49, 50, 51, 52, 53, 54, 55, 56, 57, 97, 98, 99, 100, 101, 102, 45, 97]
def shB : Txt := [116, 114, 101, 101, 10, 102, 32, 97, 32, 49, 10, 120, 10, 108, 32, 98, 47, 99, 32, 50, 10, 47, 122, 10, 101, 110, 100, 10]
theorem sh_right (g0 g1 : Nat) : rightB ((sh1 g0 g1).map EV.ent) = true := by show rightB [⟨[97], 1, [120]⟩, ⟨[98, 47, 99], 3, [47, 122]⟩] = true; decide +kernel
theorem itoa_one (n : Nat) (h : n < 10) : Lib.itoa (n : Int) = [UInt8.ofNat (48 + n)] := by
  have h0 : ¬ (n : Int) < 0 := by omega
  unfold Lib.itoa
  rw [if_neg h0, Int.toNat_natCast, Lib.decDigits_one h]
theorem sh_bytes (g0 g1 : Nat) : bytesB ((sh1 g0 g1).map EV.ent) = shB := by
  unfold bytesB
  rw [if_pos (sh_right g0 g1)]
  show entsT [⟨[97], 1, [120]⟩, ⟨[98, 47, 99], 3, [47, 122]⟩] 2 ++ [101, 110, 100, 10] = shB
  have h1 : Lib.itoa ((([120] : Txt).length : Nat) : Int) = [49] := itoa_one 1 (by decide)
  have h2 : Lib.itoa ((([47, 122] : Txt).length : Nat) : Int) = [50] := itoa_one 2 (by decide)
  simp only [entsT, List.take_succ_cons, List.take_zero, List.flatMap_cons, List.flatMap_nil, entT, h1, h2]
  rfl
theorem sh_not : rightB [⟨[97, 47, 47, 98], 1, []⟩] = false := by decide +kernel
theorem sh_refs : addAll [] (refsAll [shD]) = [shP] := by decide +kernel
theorem nil_right : rightB [] = true := rfl
end Go.Proofs.YtdhlklidenfbeaaGreatDoor
