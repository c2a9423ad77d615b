/- Plain: Commit and Home of a disk that is armed, and a loss of power behind; lists of numbers, opened. -/
import Derived.Test.YtjdlaocmifobnaaWalKeepsW
namespace Go.Proofs.Ytjdlaocmifobnaa
open Go.RowKit Go.ChangeShapes Go.WideShapes
set_option linter.unusedVariables false
set_option linter.unusedSimpArgs false

theorem Rest.arm {N : Nat} {D : DiskM} (h : Rest N D) (a : Int) (k : UInt64) : Rest N (D.arm a k) ∧ (D.arm a k).now = D.now := by
  unfold DiskM.arm
  rw [if_pos h.up]
  exact ⟨⟨⟨h.ok.pos, h.ok.most, h.ok.safeLen, h.ok.nowLen, h.ok.safe, h.ok.now, h.ok.loose⟩, h.up, h.loose, h.same⟩, rfl⟩
theorem DOff.arm {N : Nat} {P : List (List UInt8) → Prop} {D : DiskM} (h : DOff N P D) (a : Int) (k k2 : UInt64) : (D.arm a k).crash k2 = D := by
  have e : D.arm a k = D := by unfold DiskM.arm; rw [if_neg (by simp [h.up])]
  rw [e]
  unfold DiskM.crash
  rw [if_pos h.up]
theorem LInv.arm {N : Nat} {L : LogM} {D : DiskM} (h : LInv N L D) (a : Int) (k : UInt64) : LInv N L (D.arm a k) := by
  have hr := h.rest.arm a k
  exact ⟨h.ok, h.alive, hr.1, by rw [hr.2]; exact h.coded, h.over, h.staged, h.overOk, h.stagedOk, h.cost⟩
theorem rest_off {N : Nat} {D : DiskM} {P : List (List UInt8) → Prop} (h : Rest N D) (hp : P D.now) (a : Int) (k k2 : UInt64) : DOff N P ((D.arm a k).crash k2) := by
  have hr := h.arm a k
  exact hr.1.off (by rw [hr.2]; exact hp) k2
theorem val_arm {N : Nat} {L : LogM} {D : DiskM} (h : Rest N D) (a : Int) (k : UInt64) (i : Nat) : L.val (D.arm a k) i = L.val D i := by rw [val_told, val_told, (h.arm a k).2]
theorem commit_off {N : Nat} {L : LogM} {D : DiskM} (h : LInv N L D) (a : Int) (k k2 : UInt64) :
    ((commitR N L (D.arm a k)).1 = 0 ∨ (commitR N L (D.arm a k)).1 = 41) ∧
      DOff N (fun S => ((commitR N L (D.arm a k)).1 ≠ 0 ∧ Tells N L.base L.n (told L D.now) S) ∨ Tells N L.base L.n (L.val D) S) (((commitR N L (D.arm a k)).2.2.arm (-1) 0).crash k2) := by
  have hr := h.rest.arm a k
  rcases commit_plain (h.arm a k) with ⟨e, hi, hb, hn, _, ht, _⟩ | ⟨e, _, _, hf⟩
  · refine ⟨.inl e, rest_off hi.rest (.inr ?_) _ _ _⟩
    have := hi.tells
    rw [hb, hn] at this
    exact this.mono fun M h1 h2 i hi2 => (ht i (by rw [← homeB_congr h1 h2]; exact hi2)).trans (val_arm h.rest a k i)
  · refine ⟨.inr e, ?_⟩
    rw [hf.arm]
    refine hf.mono fun S _ hS => ?_
    rw [hr.2] at hS
    rcases hS with hS | hS
    · exact .inl ⟨by rw [e]; decide, hS⟩
    · exact .inr (hS.mono fun _ _ _ i _ => val_arm h.rest a k i)
theorem home_off {N : Nat} {L : LogM} {D : DiskM} (h : LInv N L D) (a : Int) (k k2 : UInt64) :
    ((homeR N L (D.arm a k)).1 = 0 ∨ (homeR N L (D.arm a k)).1 = 41) ∧ DOff N (Tells N L.base L.n (told L D.now)) (((homeR N L (D.arm a k)).2.2.arm (-1) 0).crash k2) := by
  have hr := h.rest.arm a k
  rcases home_plain (h.arm a k) with ⟨e, hi, hb, hn, _, _, hov, ht, _⟩ | ⟨e, _, _, hf⟩
  · refine ⟨.inl e, rest_off hi.rest ?_ _ _ _⟩
    have := hi.tells
    rw [hb, hn] at this
    refine this.mono fun M h1 h2 i hi2 => ?_
    have h3 := ht i (by rw [← homeB_congr h1 h2]; exact hi2)
    rw [hr.2] at h3
    rw [← h3]
    unfold told
    rw [hov]
    rfl
  · refine ⟨.inr e, ?_⟩
    rw [hf.arm, ← hr.2]
    exact hf
theorem DOff.start {N : Nat} {P : List (List UInt8) → Prop} {D : DiskM} (h : DOff N P D) : Rest N D.start ∧ P D.start.now ∧ D.start.armed = false ∧ D.startE = 0 :=
  ⟨⟨⟨h.ok.pos, h.ok.most, h.ok.safeLen, h.ok.nowLen, h.ok.safe, h.ok.now, h.ok.loose⟩, rfl, h.loose, h.same.symm⟩, by rw [show D.start.now = D.now from rfl, h.same]; exact h.safe, h.armed, by unfold DiskM.startE; rw [h.up]; rfl⟩

set_option maxRecDepth 100000 in
/-- An argument of type []uint64, opened. -/
theorem open_u64s {H : Type} {enc : TypeId × Value → H} {W : World} {base : Nat} {v : Value} {d : DataW H} {p : List MemPlace}
    (o : Value.okWide Try.prog W .any base 49 v) (k : DataW.Trod enc Try.prog W 0 (fun _ => true) true 49 v d p) :
    ∃ A n c, ∃ l : List UInt64, v = .slice A n c ∧ Slc W W.heap.size 1 A n c (l.map fun z => Value.int .u64 (z.toNat : Int)) := by
  obtain ⟨a0, len, cap, rfl⟩ := okWide_slice Try.underlying49 o
  obtain ⟨fuel, hf⟩ := k
  rcases open_ints Try.underlying49 Try.underlying44 (by kernel_rfl) hf with ⟨hcs, _⟩ | ⟨x, l, c, zs, hcs, _, hl, hm, hz, hx, hcell, hwz⟩
  · simp [Value.cells] at hcs
    obtain ⟨rfl, rfl, rfl⟩ := hcs
    exact ⟨none, 0, 0, [], rfl, ⟨rfl, Nat.le_refl _, Nat.zero_le _, fun h => absurd h (by decide)⟩⟩
  · simp [Value.cells] at hcs
    obtain ⟨rfl, rfl, rfl⟩ := hcs
    simp only [if_true] at hz
    have hcast : ∀ i (hi : i < zs.length), ((UInt64.ofNat zs[i].toNat).toNat : Int) = zs[i] := fun i hi => by
      have h := hwz zs[i] (List.getElem_mem hi)
      have h1 : 0 ≤ zs[i] ∧ zs[i] ≤ 18446744073709551615 := by simpa [Lit.wf, IntKind.min, IntKind.max, IntKind.signed, IntKind.bits] using h
      rw [UInt64.toNat_ofNat_of_lt' (show zs[i].toNat < 2 ^ 64 by omega)]
      omega
    refine ⟨some x, len, cap, (zs.take len).map fun z => UInt64.ofNat z.toNat, rfl, ⟨by simp; omega, hl, hm, fun h0 => ?_⟩⟩
    have h1 := hcell 0 (by omega)
    have hs : x.spot = none := by simpa [Addr.add] using World.cell?_spot h1
    have hblk : x.block < W.heap.size := by have := World.block_lt_of_cell? _ _ h1; simpa [block_add] using this
    obtain ⟨b, off, sp⟩ := x
    simp only at hs hblk
    subst hs
    refine ⟨b, off, rfl, hblk, fun j u hu => ?_⟩
    have hj : j < len := by
      rcases Nat.lt_or_ge j len with h | h
      · exact h
      · rw [List.getElem?_eq_none (by simp; omega)] at hu; cases hu
    have hjz : j < zs.length := by omega
    have h2 := hcell j hjz
    rw [addr_of_add] at h2
    rw [h2]
    simp only [List.map_map, List.getElem?_map, List.getElem?_take, hj, if_true, List.getElem?_eq_getElem hjz, Option.map_some, Option.some.injEq] at hu
    subst hu
    simp only [Function.comp, hcast j hjz, List.getD, List.getElem?_eq_getElem hjz, Option.getD_some]
end Go.Proofs.Ytjdlaocmifobnaa
