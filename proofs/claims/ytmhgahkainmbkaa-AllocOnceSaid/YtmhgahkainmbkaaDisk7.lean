/- The walk of the disk's Clone. -/
import Derived.Test.YtmhgahkainmbkaaDisk6
namespace Go.Proofs.Ytmhgahkainmbkaa
open Go.RowKit
set_option linter.unusedVariables false
set_option linter.unusedSimpArgs false

theorem append_sectors (w : World) {l : List (List UInt8)} {N : Nat} (hN : N ≤ 1024) {base : Nat} {v : Value} (hown : w.ownsRow base 113 128 v 0 [])
    {B : Nat} {A : Option Addr} {c : Nat} (hr : Slc w B 128 A N c (flat l)) (hb : base ≤ w.heap.size) :
    ∃ A' c' w', (AppendS #[109, 109] 109 #[v, .slice A N c]).run Try.prog w = .ok (.slice A' N c') w' ∧ w'.ownsRow base 113 128 (.slice A' N c') N (flat l) ∧ w.grownBy w' v.ownBlock ∧
      ((Value.slice A' N c').ownBlock = v.ownBlock ∨ (Value.slice A' N c').ownBlock = some w.heap.size) := by
  obtain ⟨i, hi, hz, hs, hbb⟩ := info_parts sector_info
  have := append_slc (P := Try.prog) w base 109 109 113 i _ 128 128 Try.underlying109 hi hz hs hbb (by rw [show (Value.agg (zbytes 128)).cells = zbytes 128 from rfl, zbytes_size]) (by decide) v 0 [] hown B A N c _ hr (fun u hu => by
    obtain ⟨s, _, hs⟩ := List.mem_flatMap.1 hu
    exact bvs_one s u hs) (by unfold maxLen; omega) (by omega) hb
  simp only [Nat.zero_add, List.nil_append] at this
  exact this
theorem append_looses (w : World) {l : List (Nat × List UInt8)} (hN : l.length ≤ 1000000) {base : Nat} {v : Value} (hown : w.ownsRow base 119 129 v 0 [])
    {B : Nat} {A : Option Addr} {c : Nat} (hr : Slc w B 129 A l.length c (flatLoose l)) (hb : base ≤ w.heap.size) :
    ∃ A' c' w', (AppendS #[110, 110] 110 #[v, .slice A l.length c]).run Try.prog w = .ok (.slice A' l.length c') w' ∧ w'.ownsRow base 119 129 (.slice A' l.length c') l.length (flatLoose l) ∧ w.grownBy w' v.ownBlock ∧
      ((Value.slice A' l.length c').ownBlock = v.ownBlock ∨ (Value.slice A' l.length c').ownBlock = some w.heap.size) := by
  cases hi : Try.prog.info? 119 with
  | none => have := loose_info; rw [hi] at this; cases this
  | some i =>
    have h := loose_info
    rw [hi] at h
    simp only [Option.map_some, Option.some.injEq, Prod.mk.injEq] at h
    cases hz : i.zero with
    | none => rw [hz] at h; simp at h
    | some z =>
      rw [hz] at h
      simp only [Option.map_some, Option.some.injEq] at h
      have := append_slc (P := Try.prog) w base 110 110 119 i z 129 136 Try.underlying110 hi hz h.2.1 h.2.2 h.1 (by decide) v 0 [] hown B A l.length c _ hr (fun u hu => by
        obtain ⟨s, _, hs⟩ := List.mem_flatMap.1 hu
        exact looseCells_one s u hs) (by unfold maxLen; omega) (by omega) hb
      simp only [Nat.zero_add, List.nil_append] at this
      exact this

theorem row_kept {w w' : World} {F : Nat → Prop} {base : Nat} {e : TypeId} {sz : Nat} {v : Value} {n : Nat} {xs : List Value} (h : w.ownsRow base e sz v n xs) (hb : ∀ k, v.ownBlock = some k → w'.heap[k]? = w.heap[k]?) (hF : ∀ k, v.ownBlock = some k → F k) : Row w' F e sz v n xs := by
  refine ⟨⟨h.1, ?_⟩, hF⟩
  rcases h.2 with hn | ⟨g, cap, cur, rfl, h1, h2, rest⟩
  · exact .inl hn
  · exact .inr ⟨g, cap, cur, rfl, Nat.zero_le _, by rw [hb g rfl]; exact h2, rest⟩

section
attribute [local go_sem ↓] appendS_mark
variable {w : World} {F : Nat → Prop} {p N : Nat} {D : DiskM}

end
end Go.Proofs.Ytmhgahkainmbkaa
