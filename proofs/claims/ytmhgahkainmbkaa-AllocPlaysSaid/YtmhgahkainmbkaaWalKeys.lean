/- The keys of a map, sorted, by the library's contracts. -/
import Derived.Test.YtmhgahkainmbkaaWalLay
import Derived.Test.YtmhgahkainmbkaaWalEq
namespace Go.Proofs.Ytmhgahkainmbkaa
open Go.RowKit Go.Maps Go.Sort Go.Shelf Go.MapKept
open Go.WideElems (Fit rd rg pl rd_val)
set_option linter.unusedVariables false
set_option linter.unusedSimpArgs false

/-- slices.Sort's two contracts, at the fence that asks nothing. -/
theorem sortsA (m : Nat) : AnyZI.SortsIn Try.prog Try.sortedA_ren Fence.wide m :=
  ⟨fun blk off cap ss W hH hblk hsz => callsIn_wide.2 (AnyM.slices_Sort_int Try.sortA blk off cap ss W hH hblk hsz),
   fun p cap W => callsIn_wide.2 (AnyM.slices_Sort_int_none Try.sortA p cap W)⟩

def anyR : Value → Option (DataW Unit × List MemPlace) := fun _ => some (.nil, [])
set_option maxRecDepth 100000 in
theorem mapAt_owns {w : World} {g : Nat} {m : SecMap} (h : MapAt w g m) (hm : ∀ x ∈ m, x.1 < 1000000) (hl : m.length ≤ 1000000) :
    ∃ D0 : DataW Unit, w.ownsMap Try.prog 3 anyR g m.length D0 ∧ (intKeys D0).Perm (m.map fun x => (x.1 : Int)) := by
  obtain ⟨es, clock, h1, h2, h3, l, h4, h5⟩ := h
  have hlen : es.size = m.length := by
    have h6 : es.toList.length = l.length := by have := congrArg List.length h5; simpa using this
    rw [← h4.length_eq, ← h6, Array.length_toList]
  have hrd : ∀ x ∈ es.toList, ∃ y ∈ l, x.key = .int .i64 (y.1 : Int) ∧ WideElems.rd Try.prog 3 anyR x = some (.int .i64 (y.1 : Int), .nil) := by
    intro x hx
    obtain ⟨y, hy, e1, e2⟩ := encE_keys h5 x hx
    have hlt := hm y (h4.mem_iff.1 hy)
    have hk := keyOf_int_mk (P := Try.prog) (k := 3) Try.underlying3 (q := .i64) (a := (y.1 : Int)) (by simp [Lit.wf, IntKind.min, IntKind.max, IntKind.signed, IntKind.bits]; omega)
    refine ⟨y, hy, e1, ?_⟩
    unfold WideElems.rd
    rw [e1, hk]
    rfl
  refine ⟨_, ⟨es, clock, h1, ⟨by unfold maxLen; omega, h2, fun x hx => ?_⟩, by omega, rfl⟩, ?_⟩
  · obtain ⟨y, _, _, e⟩ := hrd x hx
    exact ⟨_, e⟩
  · simp only [intKeys]
    refine ((WideShapes.sorted_perm _).map _).trans ?_
    rw [List.map_map]
    refine List.Perm.trans ?_ (h4.map _)
    rw [show l.map (fun x => (x.1 : Int)) = es.toList.map (fun x => Go.intOf (rg Try.prog 3 anyR x).1) from ?_]
    · exact List.Perm.refl _
    · have h6 : l.map (fun x => (x.1 : Int)) = (l.map encE).map (fun p => match p.1 with | .int _ z => z | _ => 0) := by
        rw [List.map_map]; rfl
      rw [h6, ← h5, List.map_map]
      refine List.map_congr_left fun x hx => ?_
      obtain ⟨y, _, e1, e⟩ := hrd x hx
      simp only [Function.comp, entOf, e1, rg, e, Option.getD_some]
      rfl
theorem rising_sorted {m : SecMap} (h : Rising m) : (m.map fun x => (x.1 : Int)).Pairwise (fun a b => leI a b = true) := by
  rw [List.pairwise_map]
  exact h.imp fun hab => by simp [leI]; omega
theorem mergeSort_keys {m : SecMap} (h : Rising m) {ss : List Int} (hp : ss.Perm (m.map fun x => (x.1 : Int))) : ss.mergeSort (fun x y => decide (x ≤ y)) = m.map fun x => (x.1 : Int) := by
  rw [show ss.mergeSort (fun x y => decide (x ≤ y)) = (m.map fun x => (x.1 : Int)).mergeSort leI from mergeSort_of_perm_i hp]
  exact List.mergeSort_of_pairwise (rising_sorted h)

/-- What maps.Keys and slices.Sorted give of a map. -/
theorem keys_any {w : World} {g : Nat} {m : SecMap} (h : MapAt w g m) (hm : ∀ x ∈ m, x.1 < 1000000) (hl : m.length ≤ 1000000) :
    Calls Try.prog 45 #[.map (some g)] w (fun e w' => e = .returned (.func (.func 74) #[] #[.pointer (some ⟨w.heap.size, 0, none⟩)]) ∧ w' = w.alloc (.cells #[.map (some g)] 75)) ∧
    Calls Try.prog 44 #[.func (.func 74) #[] #[.pointer (some ⟨w.heap.size, 0, none⟩)]] (w.alloc (.cells #[.map (some g)] 75)) fun e w' =>
      ∃ A c, e = .returned (.slice A m.length c) ∧ w'.ownsRow w.heap.size 3 1 (.slice A m.length c) m.length ((m.map fun x => x.1).map nv) ∧ Below w.heap.size w w' := by
  obtain ⟨D0, hown, hperm⟩ := mapAt_owns h hm hl
  have hbl := h.lt
  have hsz : Maps.size D0 = m.length := by
    obtain ⟨es, clock, _, _, _, rfl⟩ := hown
    have h1 := hperm.length_eq
    simp only [intKeys, List.length_map] at h1
    exact h1
  refine ⟨(callsIn_wide (n := 6)).1 (AnyZI.keys_in Try.keysA Fence.wide 6 trivial rfl (some g) w), ?_⟩
  have hseq : SeqGives Fence.wide 3 Try.prog 74 #[.pointer (some ⟨w.heap.size, 0, none⟩)] encZ (fun ss => ss.Perm (intKeys D0)) (Maps.size D0) (w.alloc (.cells #[.map (some g)] 75)) :=
    AnyZI.keys_gives (ρ := Try.keysA_ren) { Try.keysA with } Fence.wide _ trivial rfl (by omega) w.heap.size g m.length D0 _ (by simp) (by simp) (by
      obtain ⟨es, clock, hb, Ft, hs, hD⟩ := hown
      exact ⟨es, clock, (Below.heap_alloc _ _ g hbl).trans hb, Ft, hs, hD⟩)
  have cS := AnyZI.sorted_in Try.sortedA Fence.wide 6 trivial trivial trivial trivial rfl (by omega) (sortsA _) (enters_of Try.func73 (by kernel_rfl) rfl) 74 #[.pointer (some ⟨w.heap.size, 0, none⟩)] trivial (enters_of Try.func74 (by kernel_rfl) rfl) _ _ (by rw [hsz]; unfold maxLen; omega) (by rw [hsz]; omega) _ hseq
  refine ((callsIn_wide (n := 6)).1 cS).mono ?_
  rintro e w' ⟨v, ss, rfl, hS, hrow, hnil, hb⟩
  have hlen : ss.length = m.length := by rw [hS.length_eq, hperm.length_eq, List.length_map]
  have hms := mergeSort_keys h.rising (hS.trans hperm)
  rw [hms, hlen] at hrow
  have hbase : (w.alloc (.cells #[.map (some g)] 75)).heap.size = w.heap.size + 1 := by simp
  rw [hbase] at hrow
  have hrow2 : w'.ownsRow w.heap.size 3 1 v m.length ((m.map fun x => x.1).map nv) := by
    have e : (m.map fun x => x.1).map nv = (m.map fun x => (x.1 : Int)).map encZ := by rw [List.map_map, List.map_map]; rfl
    rw [e]
    exact ownsRow_base_a hrow (by omega : w.heap.size ≤ w.heap.size + 1)
  obtain ⟨A, c, rfl, _⟩ := own_slc hrow2
  exact ⟨A, c, rfl, hrow2, ((Below.refl _ w).alloc (Nat.le_refl _) _).trans (hb.mono (by simp))⟩
end Go.Proofs.Ytmhgahkainmbkaa
