/- The walk of spoil (bootjacklaw08): whoever has entries of his own writes over them. -/
import Derived.Test.YtdhlklidenfbeaaGreatDoorEnts
import Derived.Test.YtdhlklidenfbeaaGreatDoorMarks
namespace Go.Proofs.YtdhlklidenfbeaaGreatDoor
open Go.RowKit Go.Shelf
set_option linter.unusedVariables false
set_option linter.unusedSimpArgs false

structure SpoilI (base : Nat) (w : World) (gr n : Nat) (es : List EV) (i : Nat) (wr : World) : Prop where
  row : ∃ cur, Blk wr gr 73 cur ∧ n * 3 ≤ cur.size ∧ ∀ j u, i * 3 ≤ j → (es.flatMap evCells)[j]? = some u → cur[j]? = some u
  data : ∀ e ∈ es, ∃ g cur, e.A = some ⟨g, 0, none⟩ ∧ base ≤ g ∧ Blk wr g 5 cur ∧ e.n ≤ cur.size
  bel : Below base w wr
theorem spoil_start {w : World} {base : Nat} {A : Option Addr} {n c : Nat} {es : List EV} (h : OwnEnts w base (.slice A n c) n es) (hn : 0 < n) : ∃ gr, A = some ⟨gr, 0, none⟩ ∧ base ≤ gr ∧ SpoilI base w gr n es 0 w := by
  rcases h.own.2 with ⟨_, h0⟩ | ⟨gr, cap, cur, e, hb, hh, hnc, hcm, hcs, ht⟩
  · omega
  · injection e with e1
    refine ⟨gr, e1, hb, ⟨cur, hh, by rw [hcs]; exact Nat.mul_le_mul_right _ hnc, fun j u _ hu => ?_⟩, fun x hx => ?_, Below.refl _ _⟩
    · rw [← ht, List.getElem?_take] at hu
      split at hu
      · simpa using hu
      · cases hu
    · obtain ⟨g, g1, g2, g3, g4⟩ := h.data x hx
      obtain ⟨cu, hcu⟩ := h.free x hx g g1
      refine ⟨g, cu, g1, g2, hcu, ?_⟩
      rcases Nat.eq_zero_or_pos x.n with h0 | h0
      · omega
      · obtain ⟨b, off, e2, _, hc⟩ := (h.slc x hx).at_ h0
        rw [g1] at e2
        injection e2 with e2
        injection e2 with e2 e3
        subst e2 e3
        have hl := (h.slc x hx).len
        rw [List.length_map] at hl
        have h5 := hc (x.n - 1) (bv (x.data[x.n - 1]'(by omega))) (by rw [List.getElem?_map, List.getElem?_eq_getElem (by omega)]; rfl)
        rw [Nat.zero_add, (show Blk w g 5 cu from hcu).cell] at h5
        have := (Array.getElem?_eq_some_iff.1 h5).1
        omega
theorem spoil_row {base : Nat} {w wr : World} {gr n i : Nat} {es : List EV} (h : SpoilI base w gr n es i wr) (hi : i < n) (hl : es.length = n) (hb : base ≤ gr) :
    ∃ hlt : i < es.length, ((∃ v, wr.cell? ⟨gr, i * 3, none⟩ = some v) ∧ (∃ v, wr.cell? ⟨gr, i * 3 + 1, none⟩ = some v) ∧ wr.cell? ⟨gr, i * 3 + 2, none⟩ = some (.slice es[i].A es[i].n es[i].c)) ∧
      (wr.frozen? ⟨gr, i * 3, none⟩ = false ∧ wr.frozen? ⟨gr, i * 3 + 1, none⟩ = false ∧ wr.frozen? ⟨gr, i * 3 + 2, none⟩ = false) ∧
      ∀ a b c, SpoilI base w gr n es (i + 1) (((wr.setCell ⟨gr, i * 3, none⟩ a).setCell ⟨gr, i * 3 + 1, none⟩ b).setCell ⟨gr, i * 3 + 2, none⟩ c) := by
  obtain ⟨cur, hB, hsz, hc⟩ := h.row
  have hlt : i < es.length := by omega
  have g : ∀ j u, j < 3 → (evCells es[i])[j]? = some u → cur[i * 3 + j]? = some u := fun j u hj hu => hc (i * 3 + j) u (by omega) (by rw [flatMap_get evCells 3 es (fun o _ => evCells_length o) i j hlt hj]; exact hu)
  refine ⟨hlt, ⟨⟨_, by rw [hB.cell]; exact g 0 _ (by decide) rfl⟩, ⟨_, by rw [hB.cell]; exact g 1 _ (by decide) rfl⟩, by rw [hB.cell]; exact g 2 _ (by decide) rfl⟩, ⟨hB.frozen _, hB.frozen _, hB.frozen _⟩, fun a b c => ⟨⟨_, ((hB.set_ _ a).set_ _ b).set_ _ c, by simpa using hsz, fun j u hj hu => ?_⟩, fun e he => ?_, ((h.bel.setCell (p := ⟨gr, i * 3, none⟩) hb _).setCell (p := ⟨gr, i * 3 + 1, none⟩) hb _).setCell (p := ⟨gr, i * 3 + 2, none⟩) hb _⟩⟩
  · have h1 := hc j u (by omega) hu
    simp only [Array.getElem?_setIfInBounds]
    rw [if_neg (by omega), if_neg (by omega), if_neg (by omega)]
    exact h1
  · obtain ⟨g', cu, g1, g2, g3, g4⟩ := h.data e he
    have hne : g' ≠ gr := Blk.ne_ g3 hB (by decide)
    exact ⟨g', cu, g1, g2, ((g3.far (p := ⟨gr, i * 3, none⟩) hne _).far (p := ⟨gr, i * 3 + 1, none⟩) hne _).far (p := ⟨gr, i * 3 + 2, none⟩) hne _, g4⟩
theorem spoil_data {base : Nat} {w wr : World} {gr n i k : Nat} {es : List EV} (h : SpoilI base w gr n es i wr) {e : EV} (he : e ∈ es) (hk : k < e.n) :
    ∃ g, e.A = some ⟨g, 0, none⟩ ∧ (∃ v, wr.cell? ⟨g, k, none⟩ = some v) ∧ wr.frozen? ⟨g, k, none⟩ = false ∧ ∀ u, SpoilI base w gr n es i (wr.setCell ⟨g, k, none⟩ u) := by
  obtain ⟨g, cu, g1, g2, g3, g4⟩ := h.data e he
  obtain ⟨cur, hB, hsz, hc⟩ := h.row
  have hne : gr ≠ g := Blk.ne_ hB g3 (by decide)
  refine ⟨g, g1, ⟨_, by rw [g3.cell, Array.getElem?_eq_getElem (show k < cu.size by omega)]⟩, g3.frozen _, fun u => ⟨⟨cur, hB.far (p := ⟨g, k, none⟩) hne u, hsz, hc⟩, fun x hx => ?_, h.bel.setCell (p := ⟨g, k, none⟩) g2 _⟩⟩
  obtain ⟨g', cu', k1, k2, k3, k4⟩ := h.data x hx
  by_cases hgg : g' = g
  · subst hgg
    exact ⟨g', _, k1, k2, k3.set_ k u, by simpa using k4⟩
  · exact ⟨g', cu', k1, k2, k3.far (p := ⟨g, k, none⟩) hgg u, k4⟩
set_option maxRecDepth 100000 in
set_option maxHeartbeats 2000000 in
theorem spoil08_any {w : World} {base : Nat} {A : Option Addr} {n c : Nat} {es : List EV} (h : OwnEnts w base (.slice A n c) n es) (hn : n ≤ 1000000000) (hd : ∀ e ∈ es, e.n ≤ 9223372036854775807) :
    Calls Tryz.prog 18 #[.slice A n c] w fun e w' => e = .returned (.tuple #[]) ∧ Below base w w' := by
  have hl := h.len
  have HD := Lib.hid hd
  have HST := Lib.hid (fun hn => spoil_start h hn)
  clear hd h
  by_cases h0 : n = 0
  · subst h0
    go_enter Tryz.func18, Tryz.ntmps18
    go_wp2_with (fail)
    go_loopw [2] (fun i wr => i = .int .i64 0 ∧ wr = w) (fun _ _ => 0)
    case atStart => exact ⟨rfl, rfl⟩
    case round =>
      obtain ⟨rfl, rfl⟩ := hrel
      go_wp2_with (fail)
      go_end0
      exact ⟨rfl, Below.refl _ _⟩
  · obtain ⟨gr, rfl, hb, hS⟩ := HST.out (by omega)
    have HS := Lib.hid hS
    have HB := Lib.hid hb
    have HL := Lib.hid hl
    clear hS HST hb hl h0
    go_enter Tryz.func18, Tryz.ntmps18
    go_wp2_with (fail)
    go_loopw [2] (fun i wr => ∃ k : Nat, k ≤ n ∧ i = .int .i64 (k : Int) ∧ Aside (SpoilI base w gr n es k wr)) (fun i _ => n - (intOf i).toNat)
    case atStart => exact ⟨0, Nat.zero_le _, rfl, HS.out⟩
    case round =>
      obtain ⟨k, hk, rfl, hs⟩ := hrel
      by_cases hlt : k < n
      · have hmem : ∃ hlt : k < es.length, es[k] ∈ es := ⟨by have := HL.out; omega, List.getElem_mem _⟩
        obtain ⟨hle, hmem⟩ := hmem
        have hen := HD.out _ hmem
        obtain ⟨e, he⟩ : ∃ e, e = es[k] := ⟨_, rfl⟩
        rw [← he] at hmem hen
        have HE := Lib.hid he
        have HM := Lib.hid hmem
        clear he hmem
        go_wp2_with (fail)
        go_loopw [3] (fun j wq => ∃ q : Nat, q ≤ e.n ∧ j = .int .i64 (q : Int) ∧ Aside (SpoilI base w gr n es k wq)) (fun j _ => e.n - (intOf j).toNat)
        case atStart => exact ⟨0, Nat.zero_le _, rfl, hs.out⟩
        case round =>
          obtain ⟨q, hq, rfl, hs2⟩ := hrel
          obtain ⟨_, ⟨⟨v0, c0⟩, ⟨v1, c1⟩, c2⟩, ⟨f0, f1, f2⟩, hnext⟩ := spoil_row hs2.out hlt HL.out HB.out
          rw [← HE.out] at c2
          have HN := Lib.hid hnext
          clear hnext
          by_cases hqe : q < e.n
          · obtain ⟨g, hA, ⟨v, hv⟩, hf, hsd⟩ := spoil_data hs2.out HM.out hqe
            have HSD := Lib.hid hsd
            rw [hA] at c2
            clear hsd
            go_wp2_with (fail)
            exact ⟨⟨q + 1, by omega, by go_num, HSD.out _⟩, by simp [intOf]; omega⟩
          · obtain rfl : q = e.n := by omega
            go_wp2_with (fail)
            exact ⟨⟨k + 1, by omega, by go_num, HN.out _ _ _⟩, by simp [intOf]; omega⟩
      · go_wp2_with (fail)
        go_end0
        exact ⟨rfl, hs.out.bel⟩
end Go.Proofs.YtdhlklidenfbeaaGreatDoor
