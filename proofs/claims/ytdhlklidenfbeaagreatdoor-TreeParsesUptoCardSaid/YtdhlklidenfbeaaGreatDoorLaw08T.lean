/- The walk of shown (bootjacklaw08). -/
import Derived.Test.YtdhlklidenfbeaaGreatDoorLaw08S
import Derived.Lib.SlBytesConst
import Derived.Lib.SmallJoins
namespace Go.Proofs.YtdhlklidenfbeaaGreatDoor
open Go.RowKit Go.Shelf
set_option linter.unusedVariables false
set_option linter.unusedSimpArgs false

theorem calls_at {P : Program} {f : Nat} {args : Array Value} {w w' : World} {Φ : Ending → World → Prop} (h : w' = w) (k : Calls P f args w' Φ) : Calls P f args w Φ := h ▸ k
def shE2 (h : Nat) : List EV := [⟨[], 0, shD, some ⟨h + 1 + 1 + 1, 0, none⟩, 52, 52⟩]
def shE3 : List EV := [⟨[97, 47, 47, 98], 1, [], none, 0, 0⟩]
def shW3 (w : World) : World := ((w.alloc (.cells (([120] : Txt).map bv).toArray 5 (1, 2))).alloc (.cells (([47, 122] : Txt).map bv).toArray 5 (2, 3))).alloc (.cells ((sh1 w.heap.size (w.heap.size + 1)).flatMap evCells).toArray 73)
def shW (w : World) : World := ((shW3 w).alloc (.cells (shD.map bv).toArray 5 (52, 53))).alloc (.cells ((shE2 w.heap.size).flatMap evCells).toArray 73)
theorem sh_new (w : World) (t : Txt) (fr : Nat × Nat) (n : Nat) (hn : t.length = n) (hm : n ≤ 1000) : Slc (w.alloc (.cells (t.map bv).toArray 5 fr)) (w.heap.size + 1) 1 (some ⟨w.heap.size, 0, none⟩) n n (t.map bv) := by
  have := slc_new w 5 fr (t.map bv).toArray (sz := 1) (n := n) (c := n) (by simp; omega) (Nat.le_refl _) (by unfold maxLen; omega)
  simpa using this
theorem shW_size (w : World) : (shW w).heap.size = w.heap.size + 5 := by unfold shW shW3; simp
theorem shW_below (w : World) : Below w.heap.size w (shW w) := by
  unfold shW shW3
  exact ((((((Below.refl _ w).alloc (Nat.le_refl _) _).alloc (by simp) _).alloc (by simp; omega) _).alloc (by simp; omega) _).alloc (by simp; omega) _)
theorem shW_one (w : World) : EntsAt (shW w) (w.heap.size + 5) (some ⟨w.heap.size + 1 + 1, 0, none⟩) 2 2 (sh1 w.heap.size (w.heap.size + 1)) := by
  have h3 : EntsAt (shW3 w) (w.heap.size + 3) (some ⟨w.heap.size + 1 + 1, 0, none⟩) 2 2 (sh1 w.heap.size (w.heap.size + 1)) := by
    obtain ⟨w1, hw1⟩ : ∃ w1, w1 = w.alloc (.cells (([120] : Txt).map bv).toArray 5 (1, 2)) := ⟨_, rfl⟩
    obtain ⟨w2, hw2⟩ : ∃ w2, w2 = w1.alloc (.cells (([47, 122] : Txt).map bv).toArray 5 (2, 3)) := ⟨_, rfl⟩
    have z1 : w1.heap.size = w.heap.size + 1 := by rw [hw1]; simp
    have z2 : w2.heap.size = w.heap.size + 1 + 1 := by rw [hw2]; simp [z1]
    have d1 := sh_new w [120] (1, 2) 1 rfl (by decide)
    have d2 := sh_new w1 [47, 122] (2, 3) 2 rfl (by decide)
    rw [← hw1] at d1
    rw [← hw2, z1] at d2
    have hb : Below w1.heap.size w1 w2 := by rw [hw2]; exact (Below.refl _ w1).alloc (Nat.le_refl _) _
    have d1' : Slc w2 (w.heap.size + 1 + 1) 1 (some ⟨w.heap.size, 0, none⟩) 1 1 (([120] : Txt).map bv) := (d1.below (by rw [z1] at hb; exact hb)).more (by omega)
    have := ents_new w2 (sh1 w.heap.size (w.heap.size + 1)) 2 rfl (by decide) (fun e he => by
      rw [z2]
      rcases List.mem_cons.1 he with rfl | he
      · exact d1'
      · rcases List.mem_cons.1 he with rfl | he
        · exact d2
        · cases he)
    rw [z2] at this
    unfold shW3
    rw [← hw1, ← hw2]
    exact this
  have hb : Below (w.heap.size + 3) (shW3 w) (shW w) := by
    unfold shW
    exact ((Below.refl _ _).alloc (by unfold shW3; simp) _).alloc (by unfold shW3; simp) _
  have h4 := h3.below hb
  exact ⟨h4.slc.more (by omega), h4.len, fun e he => (h4.data e he).more (by omega)⟩
theorem shW_two (w : World) : EntsAt (shW w) (w.heap.size + 5) (some ⟨w.heap.size + 1 + 1 + 1 + 1, 0, none⟩) 1 1 (shE2 w.heap.size) := by
  have z3 : (shW3 w).heap.size = w.heap.size + 1 + 1 + 1 := by unfold shW3; simp
  have d := sh_new (shW3 w) shD (52, 53) 52 rfl (by decide)
  rw [z3] at d
  have z4 : ((shW3 w).alloc (.cells (shD.map bv).toArray 5 (52, 53))).heap.size = w.heap.size + 1 + 1 + 1 + 1 := by simp [z3]
  have := ents_new ((shW3 w).alloc (.cells (shD.map bv).toArray 5 (52, 53))) (shE2 w.heap.size) 1 rfl (by decide) (fun e he => by
    rw [z4, List.mem_singleton.1 he]
    exact d)
  rw [z4] at this
  exact this
theorem shE_refs (h : Nat) : addAll [] (refsAll ((shE2 h).map (·.data))) = [shP] := sh_refs
theorem shE_room (h : Nat) : (refsAll ((shE2 h).map (·.data))).length ≤ 1000000000 := by
  have h1 : refsAll ((shE2 h).map (·.data)) = refsOne shD := by
    unfold refsAll
    simp [shE2]
  rw [h1]
  exact Nat.le_trans (refsTo_length shD _) (by decide)

theorem ents_nil (w : World) : EntsAt w 0 none 0 0 [] := ⟨⟨rfl, Nat.le_refl _, Nat.zero_le _, fun h => absurd h (by decide)⟩, rfl, fun e he => by cases he⟩
theorem sh_ents3 (w : World) : EntsAt (w.alloc (.cells (shE3.flatMap evCells).toArray 73)) (w.heap.size + 1) (some ⟨w.heap.size, 0, none⟩) 1 1 shE3 :=
  ents_new w shE3 1 rfl (by decide) (fun e he => by
    rw [List.mem_singleton.1 he]
    exact ⟨rfl, Nat.le_refl _, Nat.zero_le _, fun h => absurd h (by decide)⟩)
theorem sh_paths3 : ∀ e ∈ shE3, e.path.length ≤ 1000000000 := fun e he => by rw [List.mem_singleton.1 he]; decide
theorem sh_paths {g0 g1 : Nat} : ∀ e ∈ sh1 g0 g1, e.path.length ≤ 1000000000 := fun e he => by
  rcases List.mem_cons.1 he with rfl | he
  · show ([97] : Txt).length ≤ 1000000000; decide
  · rw [List.mem_singleton.1 he]; show ([98, 47, 99] : Txt).length ≤ 1000000000; decide
theorem sh_blocks {h : Nat} : ∀ e ∈ sh1 h (h + 1), ∃ a, e.A = some a ∧ a.block < h + 5 := fun e he => by
  rcases List.mem_cons.1 he with rfl | he
  · exact ⟨_, rfl, by simp⟩
  · rw [List.mem_singleton.1 he]; exact ⟨_, rfl, by simp⟩
theorem sh_itoa (w : World) (g0 g1 : Nat) : ∀ e ∈ sh1 g0 g1, ItoaOk w (e.data.length : Int) := fun e he => by
  rcases List.mem_cons.1 he with rfl | he
  · exact itoa_small w 1 (by decide)
  · rw [List.mem_singleton.1 he]; exact itoa_small w 2 (by decide)
/-- A text of a list, for a walk. -/
theorem Slc.str {w : World} {B : Nat} {A : Option Addr} {n c : Nat} {L : List Txt} (h : Slc w B 1 A n c (L.map encStr)) {k : Nat} (hk : k < n) :
    ∃ b off, A = some ⟨b, off, none⟩ ∧ b < B ∧ ∃ hl : k < L.length, w.cell? ⟨b, off + k, none⟩ = some (.string ⟨L[k].toArray⟩) := by
  obtain ⟨b, off, e, hb, hc⟩ := h.at_ (by omega)
  have hl : k < L.length := by have := h.len; simp at this; omega
  exact ⟨b, off, e, hb, hl, hc k _ (by simp [encStr, List.getElem?_map, List.getElem?_eq_getElem hl])⟩

set_option maxRecDepth 100000 in
set_option maxHeartbeats 4000000 in
theorem shown08_any (w : World) : Calls Tryz.prog 14 #[] w fun e w' => e = .returned (.bool true) ∧ Below w.heap.size w w' := by
  have HB := Lib.hid (shW_below w)
  have HZ := Lib.hid (shW_size w)
  have H1 := Lib.hid (shW_one w)
  have hrf := refs_any (shW_two w) (by rw [shW_size]; exact Nat.le_refl _) (shE_room _)
  rw [shE_refs] at hrf
  have tB : (ByteArray.mk shB.toArray).toList = [116, 114, 101, 101, 10, 102, 32, 97, 32, 49, 10, 120, 10, 108, 32, 98, 47, 99, 32, 50, 10, 47, 122, 10, 101, 110, 100, 10] := by rw [Go.ByteArray.toList_eq]; rfl
  have tP : (ByteArray.mk shP.toArray).toList = [47, 115, 116, 111, 114, 101, 47, 48, 49, 50, 51, 52, 53, 54, 55, 56, 57, 97, 98, 99, 100, 101, 102, 45, 97] := by rw [Go.ByteArray.toList_eq]; rfl
  have kc := fun (w : World) (C : Array Value) (n c : Nat) => Lib.run_convert_bytes_const (P := Tryz.prog) w 32 5 C n c Tryz.underlying32 Tryz.underlying5
  have kc2 := fun (o : Obj) (C : Array Value) (n c : Nat) => Go.Joins.run_convert_bytes_const_at (P := Tryz.prog) (w.alloc o) 32 5 C n c (w.heap.size + 1) (by simp) Tryz.underlying32 Tryz.underlying5
  have kc4 := fun (o o2 o3 : Obj) (C : Array Value) (n c : Nat) => Go.Joins.run_convert_bytes_const_at (P := Tryz.prog) (((w.alloc o).alloc o2).alloc o3) 32 5 C n c (w.heap.size + 1 + 1 + 1) (by simp) Tryz.underlying32 Tryz.underlying5
  go_enter Tryz.func14, Tryz.ntmps14
  go_wp2_with (first
    | (go_at_call 37; refine calls_at (w' := shW w) rfl ?_; refine hrf.mono ?_; clear hrf kc kc2 kc4; rintro e6 w6 ⟨A6, n6, c6, rfl, ho6, hb6⟩; obtain rfl : n6 = 1 := (by have := ho6.1; simpa using this.symm); have HO6 := Lib.hid ho6; have HB6 := Lib.hid hb6; have hbb := bytes_any (w := w6) (B := w.heap.size + 5) (H1.out.below (HZ.out ▸ hb6)) (by have := hb6.size; rw [HZ.out] at this; exact this) sh_paths sh_blocks (fun _ e he => sh_itoa w6 _ _ e he); rw [sh_bytes] at hbb; clear ho6 hb6)
    | (go_at_call 19; refine hbb.mono ?_; clear hbb; rintro e7 w7 ⟨A7, n7, c7, rfl, ho7, hb7⟩; have hcv7 := convert_bytes (P := Tryz.prog) Tryz.underlying32 Tryz.underlying5 (own_slc_of ho7) 9 Tryz.underlying9; have HB7 := Lib.hid hb7; have hrn := right_any (ents_nil w7) (Nat.zero_le _) (fun e he => by cases he); rw [show rightB (([] : List EV).map EV.ent) = true from rfl] at hrn; clear ho7 hb7)
    | (go_at_call 20; refine hrn.mono ?_; clear hrn; rintro e8 w8 ⟨rfl, hb8⟩; have HB8 := Lib.hid hb8; have hrq := right_any (sh_ents3 w8) (by simp) sh_paths3; rw [show rightB (shE3.map EV.ent) = false from sh_not] at hrq; clear hb8)
    | (go_at_call 20; refine calls_at (w' := w8.alloc (.cells (shE3.flatMap evCells).toArray 73)) rfl ?_; refine hrq.mono ?_; clear hrq; rintro e9 w9 ⟨rfl, hb9⟩; have HB9 := Lib.hid (HB8.out.trans (((Below.refl _ w8).alloc (Nat.le_refl _) _).trans (hb9.mono (by simp)) |>.mono HB8.out.size)); clear hb9; have HB79 := Lib.hid (HB7.out.trans (HB9.out.mono HB7.out.size)); obtain ⟨b6, off6, rfl, hb6b, _, c60⟩ := ((own_slc_of HO6.out).below HB79.out).str (k := 0) (by decide); simp only [Nat.add_zero, List.getElem_cons_zero] at c60))
  go_ret
  exact ⟨rfl, HB.out.trans ((HB6.out.trans (HB79.out.mono HB6.out.size)).mono HB.out.size)⟩
end Go.Proofs.YtdhlklidenfbeaaGreatDoor
