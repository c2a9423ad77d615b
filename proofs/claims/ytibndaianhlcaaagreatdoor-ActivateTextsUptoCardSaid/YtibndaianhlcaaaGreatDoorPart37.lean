/- The reference's SameActs (bootjackref21). Bytes of a text in a block of their own, one of them changed. The walk of ActivateTexts. How much an argument holds, where it is of bulk at most 1048576. -/
import Derived.Test.YtibndaianhlcaaaGreatDoorPart34
import Derived.Test.YtibndaianhlcaaaGreatDoorPart21
import Derived.Test.YtibndaianhlcaaaGreatDoorPart20
import Derived.Deep.RegionHeldLaw
import Derived.BigQuiet
import Derived.Test.YtibndaianhlcaaaGreatDoorPart1
import Derived.Test.YtibndaianhlcaaaGreatDoorPart11
import Derived.Test.YtibndaianhlcaaaGreatDoorPart2
import Derived.Test.YtibndaianhlcaaaGreatDoorPart36
import Derived.Test.YtibndaianhlcaaaGreatDoorRows
import Derived.WideShapes
namespace Go.Proofs.YtibndaianhlcaaaGreatDoor
open Go.RowKit Go.Sort Go.Shelf
set_option linter.unusedVariables false
set_option linter.unusedSimpArgs false

theorem take_one_more {α β : Type} (f : α → β) {l m : List α} {k : Nat} (h : (l.take k).map f = (m.take k).map f) (h1 : k < l.length) (h2 : k < m.length) (h3 : f l[k] = f m[k]) : (l.take (k + 1)).map f = (m.take (k + 1)).map f := by
  rw [List.take_succ_eq_append_getElem h1, List.take_succ_eq_append_getElem h2, List.map_append, List.map_append, h]
  simp [h3]
theorem same_no {α β : Type} (f : α → β) {l m : List α} {k : Nat} (h1 : k < l.length) (h2 : k < m.length) (h3 : f l[k] ≠ f m[k]) : l.map f ≠ m.map f := fun e => by
  have h4 := congrArg (fun x => x[k]?) e
  simp only [List.getElem?_map, List.getElem?_eq_getElem h1, List.getElem?_eq_getElem h2, Option.map_some, Option.some.injEq] at h4
  exact h3 h4
/-- Are two lists of steps the same? -/
noncomputable def actsEq (l m : List ActP) : Bool := @decide (l = m) (Classical.propDecidable _)
theorem actsEq_iff (l m : List ActP) : actsEq l m = true ↔ l = m := by unfold actsEq; exact @decide_eq_true_iff _ (Classical.propDecidable _)
theorem actsEq_no {l m : List ActP} (h : l ≠ m) : actsEq l m = false := by
  cases h9 : actsEq l m with
  | false => rfl
  | true => exact absurd ((actsEq_iff l m).1 h9) h
set_option maxRecDepth 100000 in
set_option maxHeartbeats 8000000 in
theorem sameActs_any {w : World} {B B' : Nat} {A A' : Option Addr} {n n' c c' : Nat} {l m : List AV} (h : ActsAt w B A n c l) (h' : ActsAt w B' A' n' c' m) (hB : B ≤ w.heap.size) (hB' : B' ≤ w.heap.size) :
    Calls Tryz.prog 34 #[.slice A n c, .slice A' n' c'] w fun e w' => e = .returned (.bool (actsEq (l.map AV.act) (m.map AV.act))) ∧ Below w.heap.size w w' := by
  have hcm : n ≤ 9223372036854775807 := Nat.le_trans h.slc.le (Nat.le_trans h.slc.cmax (by decide))
  have hcm' : n' ≤ 9223372036854775807 := Nat.le_trans h'.slc.le (Nat.le_trans h'.slc.cmax (by decide))
  have HL := Lib.hid h.len
  have HL' := Lib.hid h'.len
  by_cases hnn : n = n'
  case neg =>
    have HD := Lib.hid (show actsEq (l.map AV.act) (m.map AV.act) = false from actsEq_no fun e => hnn (by have := congrArg List.length e; simp only [List.length_map] at this; rw [← HL.out, ← HL'.out, this]))
    have hn2 : ¬ (n : Int) = (n' : Int) := by omega
    clear h h' hB hB'
    go_enter Tryz.func34, Tryz.ntmps34
    go_wp2_with (fail)
    go_ret
    exact ⟨congrArg (fun b => Ending.returned (Value.bool b)) HD.out.symm, Below.refl _ _⟩
  subst hnn
  have H := Lib.hid h
  have H' := Lib.hid h'
  have HB := Lib.hid hB
  have HB' := Lib.hid hB'
  have HR0 := Lib.hid (Below.refl w.heap.size w)
  clear h h' hB hB'
  go_enter Tryz.func34, Tryz.ntmps34
  go_wp2_with (fail)
  go_loopw [5] (fun i wr => ∃ k : Nat, k ≤ n ∧ i = .int .i64 (k : Int) ∧ Aside ((l.take k).map AV.act = (m.take k).map AV.act) ∧ Aside (Below w.heap.size w wr)) (fun i _ => n - (intOf i).toNat)
  case atStart => exact ⟨0, Nat.zero_le _, rfl, rfl, HR0.out⟩
  case round =>
    obtain ⟨k, hk, rfl, heq, hb⟩ := hrel
    by_cases hlt : k < n
    case neg =>
      obtain rfl : k = n := by omega
      have HD := Lib.hid (show actsEq (l.map AV.act) (m.map AV.act) = true from (actsEq_iff _ _).2 (by
        have := heq.out
        rwa [List.take_of_length_le (by rw [HL.out]; exact Nat.le_refl _), List.take_of_length_le (by rw [HL'.out]; exact Nat.le_refl _)] at this))
      go_wp2_with (fail)
      go_ret
      exact ⟨congrArg (fun b => Ending.returned (Value.bool b)) HD.out.symm, hb.out⟩
    obtain ⟨b, off, rfl, hbB, hl, hcs⟩ := (H.out.below (hb.out.mono HB.out)).cells hlt
    obtain ⟨b', off', rfl, hbB', hl', hcs'⟩ := (H'.out.below (hb.out.mono HB'.out)).cells hlt
    have ha := H.out.acts _ (List.getElem_mem hl)
    have ha' := H'.out.acts _ (List.getElem_mem hl')
    have HMORE := Lib.hid (fun h3 => take_one_more AV.act heq.out hl hl' h3)
    have HNO := Lib.hid (fun h3 => same_no AV.act hl hl' h3)
    generalize l[k] = x at *
    generalize m[k] = y at *
    obtain ⟨kx, nx, fx, ux⟩ := x
    obtain ⟨ky, ny, fy, uy⟩ := y
    have hg1 : ∀ W, Below wr.heap.size wr W → ∀ j v, (avCells ⟨kx, nx, fx, ux⟩)[j]? = some v → W.cell? ⟨b, off + k * 9 + j, none⟩ = some v := fun W hW j v hj => (hW.cell (p := ⟨b, off + k * 9 + j, none⟩) (Nat.lt_of_lt_of_le hbB (Nat.le_trans HB.out hb.out.size))).trans (hcs j v hj)
    have hg2 : ∀ W, Below wr.heap.size wr W → ∀ j v, (avCells ⟨ky, ny, fy, uy⟩)[j]? = some v → W.cell? ⟨b', off' + k * 9 + j, none⟩ = some v := fun W hW j v hj => (hW.cell (p := ⟨b', off' + k * 9 + j, none⟩) (Nat.lt_of_lt_of_le hbB' (Nat.le_trans HB'.out hb.out.size))).trans (hcs' j v hj)
    have HCE := Lib.hid (show ∀ W, Below wr.heap.size wr W → W.cell? ⟨b, off + k * 9 + 2, none⟩ = some (.string ⟨fx.path.toArray⟩) ∧ W.cell? ⟨b, off + k * 9 + 3, none⟩ = some (.int .i64 fx.kind) ∧ W.cell? ⟨b, off + k * 9 + 4, none⟩ = some (.slice fx.A fx.n fx.c) ∧ W.cell? ⟨b', off' + k * 9 + 2, none⟩ = some (.string ⟨fy.path.toArray⟩) ∧ W.cell? ⟨b', off' + k * 9 + 3, none⟩ = some (.int .i64 fy.kind) ∧ W.cell? ⟨b', off' + k * 9 + 4, none⟩ = some (.slice fy.A fy.n fy.c) from fun W hW => ⟨hg1 W hW 2 _ rfl, hg1 W hW 3 _ rfl, hg1 W hW 4 _ rfl, hg2 W hW 2 _ rfl, hg2 W hW 3 _ rfl, hg2 W hW 4 _ rfl⟩)
    have HCU := Lib.hid (show ∀ W, Below wr.heap.size wr W → W.cell? ⟨b, off + k * 9 + 5, none⟩ = some (.string ⟨ux.name.toArray⟩) ∧ W.cell? ⟨b, off + k * 9 + 6, none⟩ = some (.string ⟨ux.start.toArray⟩) ∧ W.cell? ⟨b, off + k * 9 + 7, none⟩ = some (.slice ux.A ux.n ux.c) ∧ W.cell? ⟨b, off + k * 9 + 8, none⟩ = some (.slice ux.A2 ux.n2 ux.c2) ∧ W.cell? ⟨b', off' + k * 9 + 5, none⟩ = some (.string ⟨uy.name.toArray⟩) ∧ W.cell? ⟨b', off' + k * 9 + 6, none⟩ = some (.string ⟨uy.start.toArray⟩) ∧ W.cell? ⟨b', off' + k * 9 + 7, none⟩ = some (.slice uy.A uy.n uy.c) ∧ W.cell? ⟨b', off' + k * 9 + 8, none⟩ = some (.slice uy.A2 uy.n2 uy.c2) from fun W hW => ⟨hg1 W hW 5 _ rfl, hg1 W hW 6 _ rfl, hg1 W hW 7 _ rfl, hg1 W hW 8 _ rfl, hg2 W hW 5 _ rfl, hg2 W hW 6 _ rfl, hg2 W hW 7 _ rfl, hg2 W hW 8 _ rfl⟩)
    have HCK := Lib.hid (show ∀ W, Below wr.heap.size wr W → W.cell? ⟨b, off + k * 9, none⟩ = some (.int .i64 kx) ∧ W.cell? ⟨b, off + k * 9 + 1, none⟩ = some (.string ⟨nx.toArray⟩) ∧ W.cell? ⟨b', off' + k * 9, none⟩ = some (.int .i64 ky) ∧ W.cell? ⟨b', off' + k * 9 + 1, none⟩ = some (.string ⟨ny.toArray⟩) from fun W hW => ⟨hg1 W hW 0 _ rfl, hg1 W hW 1 _ rfl, hg2 W hW 0 _ rfl, hg2 W hW 1 _ rfl⟩)
    obtain ⟨fE, hfE⟩ : ∃ e, e = entsEq [fx.ent] [fy.ent] := ⟨_, rfl⟩
    obtain ⟨uE, huE⟩ : ∃ e, e = decide (ux.srv = uy.srv) := ⟨_, rfl⟩
    have hfi : fE = true ↔ fx.ent = fy.ent := by rw [hfE, entsEq_iff]; simp
    have hui : uE = true ↔ ux.srv = uy.srv := by rw [huE, decide_eq_true_iff]
    have hact : ∀ a a' : AV, a.act = a'.act ↔ a.kind = a'.kind ∧ a.name = a'.name ∧ a.file.ent = a'.file.ent ∧ a.unit.srv = a'.unit.srv := fun a a' => by
      unfold AV.act
      simp only [ActP.mk.injEq]
    have hx0 := ha.below (hb.out.mono HB.out)
    have hy0 := ha'.below (hb.out.mono HB'.out)
    have hwb := Nat.le_trans HB.out hb.out.size
    have hwb' := Nat.le_trans HB'.out hb.out.size
    have hs1 := refSame_any (w := ((wr.alloc (.cells #[.string ⟨fx.path.toArray⟩, .int .i64 fx.kind, .slice fx.A fx.n fx.c] 35)).alloc (.cells #[.string ⟨fy.path.toArray⟩, .int .i64 fy.kind, .slice fy.A fy.n fy.c] 35)).drew)
      (ent_one (d := fx.data) (((Blk.new wr 35 #[.string ⟨fx.path.toArray⟩, .int .i64 fx.kind, .slice fx.A fx.n fx.c]).alloc _).drew) (hx0.data.below (((bel_new wr _).alloc (by simp) _).drew.mono hwb)) (by omega))
      (ent_one (d := fy.data) (g := wr.heap.size + 1) (by have := (Blk.new (wr.alloc (.cells #[.string ⟨fx.path.toArray⟩, .int .i64 fx.kind, .slice fx.A fx.n fx.c] 35)) 35 #[.string ⟨fy.path.toArray⟩, .int .i64 fy.kind, .slice fy.A fy.n fy.c]).drew; rwa [World.size_alloc] at this) (hy0.data.below (((bel_new wr _).alloc (by simp) _).drew.mono hwb')) (by omega))
    have hs2 := refSame_any (w := ((wr.alloc (.cells #[.string ⟨fy.path.toArray⟩, .int .i64 fy.kind, .slice fy.A fy.n fy.c] 35)).alloc (.cells #[.string ⟨fx.path.toArray⟩, .int .i64 fx.kind, .slice fx.A fx.n fx.c] 35)).drew)
      (ent_one (d := fx.data) (g := wr.heap.size + 1) (by have := (Blk.new (wr.alloc (.cells #[.string ⟨fy.path.toArray⟩, .int .i64 fy.kind, .slice fy.A fy.n fy.c] 35)) 35 #[.string ⟨fx.path.toArray⟩, .int .i64 fx.kind, .slice fx.A fx.n fx.c]).drew; rwa [World.size_alloc] at this) (hx0.data.below (((bel_new wr _).alloc (by simp) _).drew.mono hwb)) (by omega))
      (ent_one (d := fy.data) (((Blk.new wr 35 #[.string ⟨fy.path.toArray⟩, .int .i64 fy.kind, .slice fy.A fy.n fy.c]).alloc _).drew) (hy0.data.below (((bel_new wr _).alloc (by simp) _).drew.mono hwb')) (by omega))
    rw [show ([⟨fx.path, fx.kind, fx.data, fx.A, fx.n, fx.c⟩] : List EV).map EV.ent = [fx.ent] from rfl, show ([⟨fy.path, fy.kind, fy.data, fy.A, fy.n, fy.c⟩] : List EV).map EV.ent = [fy.ent] from rfl, ← hfE] at hs1 hs2
    have HSU := Lib.hid (show ∀ W, Below wr.heap.size wr W → Calls Tryz.prog 79 #[.agg (svArr ux), .agg (svArr uy)] W fun e w' => e = .returned (.bool uE) ∧ Below W.heap.size W w' from fun W hW => by
      have h9 := sameUnit_any (w := W) ux uy ((hx0.req.below (hW.mono hwb)).more (Nat.le_trans hwb hW.size)) ((hx0.aft.below (hW.mono hwb)).more (Nat.le_trans hwb hW.size)) ((hy0.req.below (hW.mono hwb')).more (Nat.le_trans hwb' hW.size)) ((hy0.aft.below (hW.mono hwb')).more (Nat.le_trans hwb' hW.size)) (Nat.le_refl _)
      rwa [← huE] at h9)
    have HS1 := Lib.hid hs1
    have HS2 := Lib.hid hs2
    unfold svArr at HSU
    have HBW := Lib.hid hb.out
    have hd0 : Below wr.heap.size wr (((wr.alloc (.cells #[.string ⟨fx.path.toArray⟩, .int .i64 fx.kind, .slice fx.A fx.n fx.c] 35)).alloc (.cells #[.string ⟨fy.path.toArray⟩, .int .i64 fy.kind, .slice fy.A fy.n fy.c] 35)).drew) := ((bel_new wr _).alloc (by simp) _).drew
    have hd1 : Below wr.heap.size wr (((wr.alloc (.cells #[.string ⟨fy.path.toArray⟩, .int .i64 fy.kind, .slice fy.A fy.n fy.c] 35)).alloc (.cells #[.string ⟨fx.path.toArray⟩, .int .i64 fx.kind, .slice fx.A fx.n fx.c] 35)).drew) := ((bel_new wr _).alloc (by simp) _).drew
    have HD0 := Lib.hid hd0
    have HD1 := Lib.hid hd1
    have tnx : (ByteArray.mk nx.toArray).toList = nx := Go.ByteArray.toList_eq _
    have tny : (ByteArray.mk ny.toArray).toList = ny := Go.ByteArray.toList_eq _
    have HAC := Lib.hid (hact ⟨kx, nx, fx, ux⟩ ⟨ky, ny, fy, uy⟩)
    have HFI := Lib.hid hfi
    have HUI := Lib.hid hui
    have hcase : (fE = false) ∨ (fE = true ∧ uE = false) ∨ (fE = true ∧ uE = true ∧ (kx == ky) = false) ∨ (fE = true ∧ uE = true ∧ kx = ky ∧ (nx == ny) = false) ∨ (fE = true ∧ uE = true ∧ kx = ky ∧ nx = ny) := by
      by_cases h3 : kx = ky <;> by_cases h4 : nx = ny <;> cases fE <;> cases uE <;> simp [h3, h4]
    clear hs1 hs2 hfE huE hfi hui hact hx0 hy0 hwb hwb' hb heq hg1 hg2 hcs hcs' ha ha' hd0 hd1
    have HCASE := Lib.hid hcase
    clear hcase
    go_upto_region 6 with (fail)
    go_region_held (fun W' => W'.cell? ⟨b, off + k * 9 + 2, none⟩ = some (.string ⟨fx.path.toArray⟩) ∧ W'.cell? ⟨b, off + k * 9 + 3, none⟩ = some (.int .i64 fx.kind) ∧ W'.cell? ⟨b, off + k * 9 + 4, none⟩ = some (.slice fx.A fx.n fx.c) ∧ W'.cell? ⟨b', off' + k * 9 + 2, none⟩ = some (.string ⟨fy.path.toArray⟩) ∧ W'.cell? ⟨b', off' + k * 9 + 3, none⟩ = some (.int .i64 fy.kind) ∧ W'.cell? ⟨b', off' + k * 9 + 4, none⟩ = some (.slice fy.A fy.n fy.c)) (first | exact HCE.out _ HB3.out | exact HCE.out _ (by repeat (first | exact Below.refl _ _ | refine Below.alloc ?_ (by simp) _ | refine Below.drew ?_))) (first
      | (go_at_call 14; with_reducible (refine HS1.out.mono ?_); rintro e3 w3 ⟨rfl, q3, hw3⟩; have hb3 := (show Below wr.heap.size wr w3 by rw [hw3]; exact bel_drewN HD0.out q3); have HB3 := Lib.hid hb3; clear hw3 hb3)
      | (go_at_call 14; with_reducible (refine HS2.out.mono ?_); rintro e3 w3 ⟨rfl, q3, hw3⟩; have hb3 := (show Below wr.heap.size wr w3 by rw [hw3]; exact bel_drewN HD1.out q3); have HB3 := Lib.hid hb3; clear hw3 hb3))
    all_goals clear HS1 HS2 HD0 HD1
    all_goals go_upto_region 7 with (fail)
    all_goals
      have hd7 := HB3.out.drew
      have hun := HSU.out _ hd7
      go_region_held (fun W' => W'.cell? ⟨b, off + k * 9 + 5, none⟩ = some (.string ⟨ux.name.toArray⟩) ∧ W'.cell? ⟨b, off + k * 9 + 6, none⟩ = some (.string ⟨ux.start.toArray⟩) ∧ W'.cell? ⟨b, off + k * 9 + 7, none⟩ = some (.slice ux.A ux.n ux.c) ∧ W'.cell? ⟨b, off + k * 9 + 8, none⟩ = some (.slice ux.A2 ux.n2 ux.c2) ∧ W'.cell? ⟨b', off' + k * 9 + 5, none⟩ = some (.string ⟨uy.name.toArray⟩) ∧ W'.cell? ⟨b', off' + k * 9 + 6, none⟩ = some (.string ⟨uy.start.toArray⟩) ∧ W'.cell? ⟨b', off' + k * 9 + 7, none⟩ = some (.slice uy.A uy.n uy.c) ∧ W'.cell? ⟨b', off' + k * 9 + 8, none⟩ = some (.slice uy.A2 uy.n2 uy.c2)) (first | exact HCU.out _ HB4.out | exact HCU.out _ HB3.out.drew) (first
        | (go_at_call 79; with_reducible (refine hun.mono ?_); clear hun; rintro e4 w4 ⟨rfl, hb4⟩; have hb4' := HB3.out.drew.trans (hb4.mono HB3.out.drew.size); have HB4 := Lib.hid hb4'; obtain ⟨c0, c1, c2, c3⟩ := HCK.out _ hb4'; clear hb4 hb4'))
    all_goals clear hd7 HSU HCE HCU
    all_goals go_upto_region 8 with (fail)
    all_goals
      have hcase := HCASE.out
      clear HCASE HCK
      have hkk0 : (kx == kx) = true := (by simp)
      rcases hcase with rfl | ⟨rfl, rfl⟩ | ⟨rfl, rfl, h3⟩ | ⟨rfl, rfl, rfl, h4⟩ | ⟨rfl, rfl, rfl, rfl⟩
    all_goals first
      | (have HD := Lib.hid (HMORE.out (HAC.out.2 ⟨rfl, rfl, HFI.out.1 rfl, HUI.out.1 rfl⟩))
         have hnn : (nx == nx) = true := (by simp)
         have hkk : (kx == kx) = true := (by simp)
         clear HNO HMORE HAC HFI HUI
         go_quiet (fail)
         go_wp2_with (fail)
         exact ⟨⟨k + 1, by omega, by go_num, HD.out, HBW.out.trans ((HB4.out.trans (below_drewN _ _)).mono HBW.out.size)⟩, by simp [intOf]; omega⟩)
      | (have HD := Lib.hid (show actsEq (l.map AV.act) (m.map AV.act) = false from actsEq_no (HNO.out (fun h9 => by
          have h8 := HAC.out.1 h9
          first
            | (have := HFI.out.2 h8.2.2.1; cases this; done)
            | (have := HUI.out.2 h8.2.2.2; cases this; done)
            | (have h7 : kx = ky := h8.1; rw [h7] at h3; simp at h3; done)
            | (have h7 : nx = ny := h8.2.1; rw [h7] at h4; simp at h4; done))))
         clear HNO HMORE HAC HFI HUI
         (try have h3b : decide (kx = ky) = false := decide_eq_false (beq_eq_false_iff_ne.1 h3))
         (try have h3c : ¬ kx = ky := beq_eq_false_iff_ne.1 h3)
         (try have h3d : (kx != ky) = true := bne_iff_ne.2 (beq_eq_false_iff_ne.1 h3))
         go_quiet (fail)
         go_wp2_with (fail)
         go_ret
         exact ⟨congrArg (fun b => Ending.returned (Value.bool b)) HD.out.symm, HBW.out.trans ((HB4.out.trans (below_drewN _ _)).mono HBW.out.size)⟩)
end Go.Proofs.YtibndaianhlcaaaGreatDoor
namespace Go.Proofs.YtibndaianhlcaaaGreatDoor
open Go.RowKit
set_option linter.unusedVariables false
set_option linter.unusedSimpArgs false

/-- A block whose mark lies behind its cells: none is frozen. -/
def MBlk (w : World) (g : Nat) (t : TypeId) (cs : Array Value) : Prop := ∃ fz : Nat × Nat, w.heap[g]? = some (.cells cs t fz) ∧ cs.size ≤ fz.1
section
variable {w w' : World} {g : Nat} {t : TypeId} {cs : Array Value}
theorem MBlk.lt (h : MBlk w g t cs) : g < w.heap.size := by
  obtain ⟨fz, h, _⟩ := h
  rcases Nat.lt_or_ge g w.heap.size with hlt | hge
  · exact hlt
  · rw [Array.getElem?_eq_none hge] at h; cases h
theorem MBlk.below {B : Nat} (h : MBlk w g t cs) (hb : Below B w w') (hg : g < B) : MBlk w' g t cs := by
  obtain ⟨fz, h, hf⟩ := h; exact ⟨fz, (hb.block g hg).trans h, hf⟩
theorem MBlk.slc (h : MBlk w g t cs) {n c : Nat} (hl : n ≤ cs.size) (hnc : n ≤ c) (hc : c ≤ maxLen) : Slc w (g + 1) 1 (some ⟨g, 0, none⟩) n c (cs.toList.take n) := by
  obtain ⟨fz, h, _⟩ := h
  exact ⟨by simp; omega, hnc, hc, fun _ => ⟨g, 0, rfl, by omega, fun j u hu => by
    rw [Nat.zero_add, cell_of_row w g j cs t fz h]
    rw [List.getElem?_take] at hu
    split at hu
    · simpa using hu
    · cases hu⟩⟩
end

theorem bytes_made (w : World) {bytes : List UInt8} {n : Nat} (hn : bytes.length = n) (hm : n ≤ maxLen) :
    ∃ cap w' cur, (convert 9 33 (.string ⟨bytes.toArray⟩)).run Tryz.prog w = .ok (.slice (some ⟨w.heap.size, 0, none⟩) n cap) w' ∧ Below w.heap.size w w' ∧ w.heap.size < w'.heap.size ∧ MBlk w' w.heap.size 5 cur ∧ cur.toList.take n = bytes.map bv ∧ n ≤ cap ∧ cap ≤ maxLen ∧ n ≤ cur.size := by
  have h := run_bytes_of_string (P := Tryz.prog) w 9 33 5 ⟨bytes.toArray⟩ Tryz.underlying9 Tryz.underlying33 Tryz.underlying5
  have hsz : (⟨bytes.toArray⟩ : ByteArray).size = n := by rw [← hn]; rfl
  rw [hsz] at h
  refine ⟨_, _, _, h, ((Below.refl _ w).drew).alloc (Nat.le_refl _) _, by simp, ⟨_, heap_alloc_new w.drew _, Nat.le_refl _⟩, ?_, ?_, ?_, ?_⟩
  · show ((bytes.toArray.map (fun b => Value.int .u8 b.toNat)) ++ Array.replicate _ (Value.int .u8 0)).toList.take n = _
    rw [Array.toList_append, List.take_left' (by simp [hn])]
    simp [bv]
  · exact Nat.le_trans (Nat.le_of_eq hsz.symm) (hsz ▸ grownCap_ge _ _ _ _)
  · exact hsz ▸ grownCap_le_maxLen _ _ _ _ (by rw [hsz]; exact hm)
  · show n ≤ ((bytes.toArray.map (fun b => Value.int .u8 b.toNat)) ++ Array.replicate _ (Value.int .u8 0)).size
    simp [hn]

theorem xor_u8 (x y : UInt8) : bits BinOp.xor IntKind.u8 (x.toNat : Int) (y.toNat : Int) = ((x ^^^ y).toNat : Int) := by
  have h : ∀ z : UInt8, BitVec.ofInt 8 (z.toNat : Int) = z.toBitVec := fun z => by
    apply BitVec.eq_of_toNat_eq
    have := z.toNat_lt
    rw [BitVec.toNat_ofInt]
    show ((z.toNat : Int) % (2 ^ 8 : Nat)).toNat = z.toNat
    omega
  show IntKind.u8.wrap ((BitVec.ofInt 8 (x.toNat : Int) ^^^ BitVec.ofInt 8 (y.toNat : Int)).toNat : Int) = _
  rw [h, h]
  have := (x ^^^ y).toNat_lt
  show IntKind.u8.wrap ((x ^^^ y).toNat : Int) = _
  generalize (x ^^^ y).toNat = m at *
  simp [IntKind.wrap, IntKind.bits, IntKind.signed]
  omega
theorem MBlk.frozen {w : World} {g : Nat} {t : TypeId} {cs : Array Value} (h : MBlk w g t cs) {i : Nat} (hi : i < cs.size) : w.frozen? ⟨g, i, none⟩ = false := by
  obtain ⟨⟨lo, hi'⟩, h, hf⟩ := h
  simp only [World.frozen?, h, Bool.and_eq_false_iff, decide_eq_false_iff_not]
  left
  simp only at hf
  omega
theorem MBlk.cell {w : World} {g : Nat} {t : TypeId} {cs : Array Value} (h : MBlk w g t cs) (i : Nat) : w.cell? ⟨g, i, none⟩ = cs[i]? := by
  obtain ⟨fz, h, _⟩ := h
  exact cell_of_row w g i cs t fz h
theorem MBlk.set_ {w : World} {g : Nat} {t : TypeId} {cs : Array Value} (h : MBlk w g t cs) (i : Nat) (u : Value) : MBlk (w.setCell ⟨g, i, none⟩ u) g t (cs.setIfInBounds i u) := by
  obtain ⟨fz, h, hf⟩ := h
  refine ⟨fz, ?_, by simpa using hf⟩
  simp [World.setCell, Array.getElem?_modify, h]
/-- One byte of the copy is changed. -/
theorem flip_text {w : World} {g n cap : Nat} {cur : Array Value} {s : Txt} (h : MBlk w g 5 cur) (hc : cur.toList.take n = s.map bv) (hl : s.length = n) (hn : n ≤ cap) (hm : cap ≤ maxLen) (hcs : n ≤ cur.size) {j : Nat} (hj : j < n) (y : UInt8) :
    (∃ x : UInt8, w.cell? ⟨g, j, none⟩ = some (.int .u8 (x.toNat : Int))) ∧ w.frozen? ⟨g, j, none⟩ = false ∧ ∀ x : UInt8, Slc (w.setCell ⟨g, j, none⟩ (.int .u8 (x.toNat : Int))) (g + 1) 1 (some ⟨g, 0, none⟩) n cap ((s.set j x).map bv) := by
  refine ⟨?_, h.frozen (by omega), fun x => ?_⟩
  · have h1 : (cur.toList.take n)[j]? = some (bv (s[j]'(by omega))) := by rw [hc, List.getElem?_map, List.getElem?_eq_getElem (by omega)]; rfl
    rw [List.getElem?_take, if_pos hj, Array.getElem?_toList] at h1
    exact ⟨_, (h.cell j).trans h1⟩
  · have h1 := (h.set_ j (.int .u8 (x.toNat : Int))).slc (n := n) (c := cap) (by simpa using hcs) hn hm
    have e : (cur.setIfInBounds j (.int .u8 (x.toNat : Int))).toList.take n = (s.set j x).map bv := by
      rw [Array.toList_setIfInBounds, List.take_set, hc, List.map_set]
      rfl
    rwa [e] at h1
end Go.Proofs.YtibndaianhlcaaaGreatDoor
namespace Go.Proofs.YtibndaianhlcaaaGreatDoor
open Go.RowKit Go.Sort Go.Shelf
open Go.WideShapes (bytes_inj)
set_option linter.unusedVariables false
set_option linter.unusedSimpArgs false

theorem textA_empty (dec : Nat → Txt) : textA dec [] = some wEnd := by
  unfold textA
  rw [if_pos ⟨by decide, rfl⟩]
  rfl
theorem parse_empty : parseP numI decI [] = none := by
  unfold parseP readL
  rw [if_pos (.inr rfl)]
  simp only
  rw [textA_empty, if_neg]
  intro h
  injection h with h
  cases h
theorem dec_all (n : Nat) (h : n ≤ 2048) : DecOk numI decI n := dec_okI n h
theorem text_ne {l : List ActP} {t : Txt} (h : textA decI l = some t) : t ≠ [] := fun e => by
  obtain ⟨s, hs⟩ := text_ends h
  rw [e] at hs
  have := congrArg List.length hs
  simp [wEnd] at this
set_option maxRecDepth 100000 in
set_option maxHeartbeats 8000000 in
theorem texts21_any {w : World} {A : Option Addr} {n c : Nat} {l : List AV} (h : ActsAt w w.heap.size A n c l) (hs : ∀ a ∈ l, SmallQ a) (hT : ∀ t, textA decI (l.map AV.act) = some t → t.length ≤ 60000000) (x : Int) (hx0 : -9223372036854775808 ≤ x) (hx1 : x ≤ 9223372036854775807) (y : UInt8)
    (hm : MaxOk w) (ha : AtoiOk w) (ht : TabOk w) :
    Calls Tryz.prog 8 #[.slice A n c, .int .i64 x, .int .u8 (y.toNat : Int)] w fun e w' => e = .returned (.bool true) ∧ Below w.heap.size w w' := by
  have hsh := shown21_any w
  have H := Lib.hid h
  have HTX := Lib.hid (fun (W : World) (hW : Below w.heap.size w W) => text21_any (h.below hW) hW.size hs (ht.below hW))
  have HRT := Lib.hid (fun (W : World) (hW : Below w.heap.size w W) => refText21_any (h.below hW) hW.size hs)
  have HPR := Lib.hid (fun (t : Txt) (htl : t.length ≤ 60000000) (W : World) (hW : Below w.heap.size w W) => parse21_any (w := W) (text := t) htl (hm.below hW) (ha.below hW) (ht.below hW))
  clear h hs hm ha ht
  cases htx : textA decI (l.map AV.act) with
  | none =>
    have HN := Lib.hid htx
    clear htx hT
    go_enter Tryz.func8, Tryz.ntmps8
    go_wp2_with (first
      | (go_at_call 10; refine hsh.mono ?_; clear hsh; rintro e w1 ⟨rfl, hb1⟩; have htt := HTX.out w1 hb1; have HB1 := Lib.hid hb1; clear hb1)
      | (go_at_call 31; refine htt.mono ?_; clear htt; rintro e w2 ⟨b2, rfl, hd2, hb2⟩; rw [HN.out] at hd2; obtain rfl : b2 = ⟨#[]⟩ := bytes_inj hd2; have hb2' := HB1.out.trans (hb2.mono HB1.out.size); have hrt := HRT.out w2 hb2'; have HB2 := Lib.hid hb2'; clear hd2 hb2 hb2')
      | (go_at_call 32; refine hrt.mono ?_; clear hrt; intro e w3 h3; obtain ⟨rfl, hb3⟩ := h3.at_none HN.out; have hb3' := HB2.out.trans (hb3.mono HB2.out.size); have hpp := HPR.out [] (by simp) w3 hb3'; have HB3 := Lib.hid hb3'; clear h3 hb3 hb3')
      | (go_at_call 33; refine hpp.mono ?_; clear hpp; intro e w4 h4; obtain ⟨rfl, hb4⟩ := h4.at_none parse_empty; have HB4 := Lib.hid (HB3.out.trans (hb4.mono HB3.out.size)); clear h4 hb4))
    go_ret
    exact ⟨rfl, HB4.out⟩
  | some s =>
    have HS := Lib.hid htx
    have HTL := Lib.hid (hT s htx)
    have HPB := Lib.hid (show parseP numI decI s = some (l.map AV.act) from parse_back dec_all htx)
    have HSHORT := Lib.hid (show parseP numI decI (s.take (s.length - 1)) = none by rw [← List.dropLast_eq_take]; exact parse_short htx)
    have HNEV := Lib.hid (text_ne htx)
    have HEND := Lib.hid (show ([] : List AV).map AV.act = [] from rfl)
    have HEQ := Lib.hid ((actsEq_iff (l.map AV.act) (l.map AV.act)).2 rfl)
    clear htx hT
    obtain ⟨nn, hnn⟩ : ∃ nn, nn = s.length := ⟨_, rfl⟩
    have HNN := Lib.hid hnn.symm
    have HN0 := Lib.hid (show 0 < nn by
      rcases Nat.eq_zero_or_pos nn with h0 | h0
      · exact absurd (List.eq_nil_of_length_eq_zero (by omega)) HNEV.out
      · exact h0)
    have hn0 : ¬ nn = 0 := by have := HN0.out; omega
    have hn62 : nn ≤ 9223372036854775807 := by have := HTL.out; omega
    have tls : (ByteArray.mk s.toArray).toList = s := Go.ByteArray.toList_eq _
    have hss : (s == s) = true := by simp
    have hsz : (ByteArray.mk s.toArray).size = nn := by rw [bsz_mk, hnn]
    have hsub : ((nn : Int) - 1) = ((nn - 1 : Nat) : Int) := by have := HN0.out; omega
    have hxs : (ByteArray.mk s.toArray).extract 0 (nn - 1) = ⟨(s.take (nn - 1)).toArray⟩ := ext0 s (nn - 1)
    have HSH2 := Lib.hid (show parseP numI decI (s.take (nn - 1)) = none by rw [hnn]; exact HSHORT.out)
    have HPS := Lib.hid (fun (W : World) (hW : Below w.heap.size w W) => HPR.out (s.take (nn - 1)) (by rw [List.length_take]; have := HTL.out; omega) W hW)
    have hle1 : nn - 1 ≤ nn := Nat.sub_le _ _
    clear hnn
    by_cases hneg : x < 0
    · obtain ⟨q, hq⟩ : ∃ q : Nat, -(x + 1) = (q : Int) := ⟨(-(x + 1)).toNat, by omega⟩
      have i1 : IntKind.i64.wrap (x + 1) = x + 1 := IntWalk.i64_in _ (by omega)
      have i2 : IntKind.i64.wrap (-(x + 1)) = -(x + 1) := IntWalk.i64_in _ (by omega)
      have HQE := Lib.hid hq
      clear hq hx0 hx1
      go_enter Tryz.func8, Tryz.ntmps8
      go_upto_region 14 with (first
        | (go_at_call 10; refine hsh.mono ?_; clear hsh; rintro e w1 ⟨rfl, hb1⟩; have htt := HTX.out w1 hb1; have HB1 := Lib.hid hb1; clear hb1)
        | (go_at_call 31; refine htt.mono ?_; clear htt; rintro e w2 ⟨b2, rfl, hd2, hb2⟩; rw [HS.out] at hd2; obtain rfl : b2 = ⟨s.toArray⟩ := bytes_inj (by rw [hd2]; rfl); have hb2' := HB1.out.trans (hb2.mono HB1.out.size); have hrt := HRT.out w2 hb2'; have HB2 := Lib.hid hb2'; clear hd2 hb2 hb2')
        | (go_at_call 32; refine hrt.mono ?_; clear hrt; intro e w3 h3; obtain ⟨rfl, hb3⟩ := h3.at_some HS.out; have hb3' := HB2.out.trans (hb3.mono HB2.out.size); have hpp := HPR.out s HTL.out w3 hb3'; have HB3 := Lib.hid hb3'; clear h3 hb3 hb3')
        | (go_at_call 33; refine hpp.mono ?_; clear hpp; intro e w4 h4; obtain ⟨A4, n4, c4, l4, rfl, hl4, hat4, hsm4, hb4⟩ := h4.at_some HPB.out; have hb4' := HB3.out.trans (hb4.mono HB3.out.size); have hsa := sameActs_any hat4 (H.out.below hb4') (Nat.le_refl _) hb4'.size; rw [hl4, HEQ.out] at hsa; have HB4 := Lib.hid hb4'; clear h4 hl4 hat4 hsm4 hb4 hb4')
        | (go_at_call 34; refine hsa.mono ?_; clear hsa; rintro e w9 ⟨rfl, hb9⟩; have HB9 := Lib.hid (HB4.out.trans (hb9.mono HB4.out.size)); obtain ⟨cap, w10, cur, hcv, hb10, hz10, hMB, hcur, hcap, hcm, hcsz⟩ := bytes_made w9 HNN.out (by have := HTL.out; have := HNN.out; unfold maxLen; omega); have HB10 := Lib.hid (HB9.out.trans (hb10.mono HB9.out.size)); clear hb9 hb10 hz10))
      obtain ⟨j, hj⟩ : ∃ j, j = q % nn := ⟨_, rfl⟩
      rw [HQE.out]
      clear i1 i2 hneg
      obtain ⟨x0c, hfz, hslc⟩ := flip_text hMB hcur HNN.out hcap hcm hcsz (j := j) (by rw [hj]; exact Nat.mod_lt _ HN0.out) y
      obtain ⟨x0, hxc⟩ := x0c
      have hxor := xor_u8 x0 y
      have hS := hslc (x0 ^^^ y)
      have hbx : Below w.heap.size w (w10.setCell ⟨w9.heap.size, j, none⟩ (.int .u8 ((x0 ^^^ y).toNat : Int))).drew := (HB10.out.setCell (p := ⟨w9.heap.size, j, none⟩) HB9.out.size _).drew
      have HBD := Lib.hid hbx
      obtain ⟨t, htd⟩ : ∃ t, t = s.set j (x0 ^^^ y) := ⟨_, rfl⟩
      have htl : t.length = nn := by rw [htd, List.length_set]; exact HNN.out
      rw [← htd] at hS
      have hlt10 : w9.heap.size + 1 ≤ (w10.setCell ⟨w9.heap.size, j, none⟩ (.int .u8 ((x0 ^^^ y).toNat : Int))).drew.heap.size := by have := hMB.lt; simp only [World.size_drew, World.size_setCell]; omega
      have HCV := Lib.hid (show ∀ W, Below (w10.setCell ⟨w9.heap.size, j, none⟩ (.int .u8 ((x0 ^^^ y).toNat : Int))).drew.heap.size (w10.setCell ⟨w9.heap.size, j, none⟩ (.int .u8 ((x0 ^^^ y).toNat : Int))).drew W → (convert 33 9 (.slice (some ⟨w9.heap.size, 0, none⟩) nn cap)).run Tryz.prog W = .ok (.string ⟨t.toArray⟩) W from fun W hW => convert_bytes (P := Tryz.prog) (src := 33) Tryz.underlying33 Tryz.underlying5 (hS.drew.below (hW.mono hlt10)) 9 Tryz.underlying9)
      have hcv2 := HCV.out _ (Below.refl _ _)
      have HPT := Lib.hid (fun (W : World) (hW : Below w.heap.size w W) => HPR.out t (by rw [htl]; have := HTL.out; have := HNN.out; omega) W hW)
      have ttl : (ByteArray.mk t.toArray).toList = t := Go.ByteArray.toList_eq _
      have htt9 : (t == t) = true := by simp
      generalize x0 ^^^ y = x1 at *
      have hjt : (q : Int).tmod (nn : Int) = (j : Int) := by rw [Int.tmod_eq_emod_of_nonneg (by omega), hj]; rfl
      have hjq : (q : Int) % (nn : Int) = (j : Int) := by rw [hj]; rfl
      have hjn : j < nn := by rw [hj]; exact Nat.mod_lt _ HN0.out
      clear hMB hcur hslc hS hbx hj htd htl hlt10
      go_region
      cases hpt : parseP numI decI t with
      | none =>
        have HPN := Lib.hid hpt
        clear hpt
        go_wp2_with (first
          | (go_at_call 33; refine (HPT.out _ HBD.out).mono ?_; clear HPT; intro e w11 h11; obtain ⟨rfl, hb11⟩ := h11.at_none HPN.out; have hb11' := HBD.out.trans (hb11.mono HBD.out.size); have hrt2 := refText21_any (w := w11) (B := w11.heap.size) (A := none) (n := 0) (c := 0) (l := []) ⟨slc_none _ _ _, rfl, (fun a ha => by cases ha)⟩ (Nat.le_refl _) (fun a ha => by cases ha); have HC11 := Lib.hid hb11; have HB11 := Lib.hid hb11'; clear h11 hb11 hb11')
          | (go_at_call 32; refine hrt2.mono ?_; clear hrt2; intro e w12 h12; obtain ⟨rfl, hb12⟩ := h12.at_some (t := wEnd) (by rw [HEND.out]; exact textA_empty _); have hb12' := HB11.out.trans (hb12.mono HB11.out.size); have HB12 := Lib.hid hb12'; have hps := HPS.out w12 hb12'; clear h12 hb12 hb12')
          | (go_at_call 33; refine hps.mono ?_; clear hps; intro e w13 h13; obtain ⟨rfl, hb13⟩ := h13.at_none HSH2.out; have HB13 := Lib.hid (HB12.out.trans (hb13.mono HB12.out.size)); clear h13 hb13))
        go_ret
        exact ⟨rfl, HB13.out⟩
      | some L =>
        have HPN := Lib.hid hpt
        have HPX := Lib.hid (parse_text hpt)
        clear hpt
        go_wp2_with (first
          | (go_at_call 33; refine (HPT.out _ HBD.out).mono ?_; clear HPT; intro e w11 h11; obtain ⟨A11, n11, c11, l11, rfl, hl11, hat11, hsm11, hb11⟩ := h11.at_some HPN.out; have hb11' := HBD.out.trans (hb11.mono HBD.out.size); have hrt2 := refText21_any hat11 (Nat.le_refl _) hsm11; have HL11 := Lib.hid hl11; have HC11 := Lib.hid hb11; have HB11 := Lib.hid hb11'; clear h11 hb11 hb11' hl11 hat11 hsm11)
          | (go_at_call 32; refine hrt2.mono ?_; clear hrt2; intro e w12 h12; obtain ⟨rfl, hb12⟩ := h12.at_some (t := t) (by rw [HL11.out]; exact HPX.out); have hb12' := HB11.out.trans (hb12.mono HB11.out.size); have HC12 := Lib.hid (HC11.out.trans (hb12.mono HC11.out.size)); have HB12 := Lib.hid hb12'; have hps := HPS.out w12 hb12'; clear h12 hb12 hb12')
          | (go_at_call 33; refine hps.mono ?_; clear hps; intro e w13 h13; obtain ⟨rfl, hb13⟩ := h13.at_none HSH2.out; have hcv3 := HCV.out w13 (HC12.out.trans (hb13.mono HC12.out.size)); have HB13 := Lib.hid (HB12.out.trans (hb13.mono HB12.out.size)); clear h13 hb13))
        go_ret
        exact ⟨rfl, HB13.out⟩
    · obtain ⟨q, hq⟩ : ∃ q : Nat, x = (q : Int) := ⟨x.toNat, by omega⟩
      subst hq
      clear hx0 hx1
      go_enter Tryz.func8, Tryz.ntmps8
      go_upto_region 14 with (first
        | (go_at_call 10; refine hsh.mono ?_; clear hsh; rintro e w1 ⟨rfl, hb1⟩; have htt := HTX.out w1 hb1; have HB1 := Lib.hid hb1; clear hb1)
        | (go_at_call 31; refine htt.mono ?_; clear htt; rintro e w2 ⟨b2, rfl, hd2, hb2⟩; rw [HS.out] at hd2; obtain rfl : b2 = ⟨s.toArray⟩ := bytes_inj (by rw [hd2]; rfl); have hb2' := HB1.out.trans (hb2.mono HB1.out.size); have hrt := HRT.out w2 hb2'; have HB2 := Lib.hid hb2'; clear hd2 hb2 hb2')
        | (go_at_call 32; refine hrt.mono ?_; clear hrt; intro e w3 h3; obtain ⟨rfl, hb3⟩ := h3.at_some HS.out; have hb3' := HB2.out.trans (hb3.mono HB2.out.size); have hpp := HPR.out s HTL.out w3 hb3'; have HB3 := Lib.hid hb3'; clear h3 hb3 hb3')
        | (go_at_call 33; refine hpp.mono ?_; clear hpp; intro e w4 h4; obtain ⟨A4, n4, c4, l4, rfl, hl4, hat4, hsm4, hb4⟩ := h4.at_some HPB.out; have hb4' := HB3.out.trans (hb4.mono HB3.out.size); have hsa := sameActs_any hat4 (H.out.below hb4') (Nat.le_refl _) hb4'.size; rw [hl4, HEQ.out] at hsa; have HB4 := Lib.hid hb4'; clear h4 hl4 hat4 hsm4 hb4 hb4')
        | (go_at_call 34; refine hsa.mono ?_; clear hsa; rintro e w9 ⟨rfl, hb9⟩; have HB9 := Lib.hid (HB4.out.trans (hb9.mono HB4.out.size)); obtain ⟨cap, w10, cur, hcv, hb10, hz10, hMB, hcur, hcap, hcm, hcsz⟩ := bytes_made w9 HNN.out (by have := HTL.out; have := HNN.out; unfold maxLen; omega); have HB10 := Lib.hid (HB9.out.trans (hb10.mono HB9.out.size)); clear hb9 hb10 hz10))
      obtain ⟨j, hj⟩ : ∃ j, j = q % nn := ⟨_, rfl⟩
      obtain ⟨x0c, hfz, hslc⟩ := flip_text hMB hcur HNN.out hcap hcm hcsz (j := j) (by rw [hj]; exact Nat.mod_lt _ HN0.out) y
      obtain ⟨x0, hxc⟩ := x0c
      have hxor := xor_u8 x0 y
      have hS := hslc (x0 ^^^ y)
      have hbx : Below w.heap.size w (w10.setCell ⟨w9.heap.size, j, none⟩ (.int .u8 ((x0 ^^^ y).toNat : Int))).drew := (HB10.out.setCell (p := ⟨w9.heap.size, j, none⟩) HB9.out.size _).drew
      have HBD := Lib.hid hbx
      obtain ⟨t, htd⟩ : ∃ t, t = s.set j (x0 ^^^ y) := ⟨_, rfl⟩
      have htl : t.length = nn := by rw [htd, List.length_set]; exact HNN.out
      rw [← htd] at hS
      have hlt10 : w9.heap.size + 1 ≤ (w10.setCell ⟨w9.heap.size, j, none⟩ (.int .u8 ((x0 ^^^ y).toNat : Int))).drew.heap.size := by have := hMB.lt; simp only [World.size_drew, World.size_setCell]; omega
      have HCV := Lib.hid (show ∀ W, Below (w10.setCell ⟨w9.heap.size, j, none⟩ (.int .u8 ((x0 ^^^ y).toNat : Int))).drew.heap.size (w10.setCell ⟨w9.heap.size, j, none⟩ (.int .u8 ((x0 ^^^ y).toNat : Int))).drew W → (convert 33 9 (.slice (some ⟨w9.heap.size, 0, none⟩) nn cap)).run Tryz.prog W = .ok (.string ⟨t.toArray⟩) W from fun W hW => convert_bytes (P := Tryz.prog) (src := 33) Tryz.underlying33 Tryz.underlying5 (hS.drew.below (hW.mono hlt10)) 9 Tryz.underlying9)
      have hcv2 := HCV.out _ (Below.refl _ _)
      have HPT := Lib.hid (fun (W : World) (hW : Below w.heap.size w W) => HPR.out t (by rw [htl]; have := HTL.out; have := HNN.out; omega) W hW)
      have ttl : (ByteArray.mk t.toArray).toList = t := Go.ByteArray.toList_eq _
      have htt9 : (t == t) = true := by simp
      generalize x0 ^^^ y = x1 at *
      have hjt : (q : Int).tmod (nn : Int) = (j : Int) := by rw [Int.tmod_eq_emod_of_nonneg (by omega), hj]; rfl
      have hjq : (q : Int) % (nn : Int) = (j : Int) := by rw [hj]; rfl
      have hjn : j < nn := by rw [hj]; exact Nat.mod_lt _ HN0.out
      clear hMB hcur hslc hS hbx hj htd htl hlt10
      go_region
      cases hpt : parseP numI decI t with
      | none =>
        have HPN := Lib.hid hpt
        clear hpt
        go_wp2_with (first
          | (go_at_call 33; refine (HPT.out _ HBD.out).mono ?_; clear HPT; intro e w11 h11; obtain ⟨rfl, hb11⟩ := h11.at_none HPN.out; have hb11' := HBD.out.trans (hb11.mono HBD.out.size); have hrt2 := refText21_any (w := w11) (B := w11.heap.size) (A := none) (n := 0) (c := 0) (l := []) ⟨slc_none _ _ _, rfl, (fun a ha => by cases ha)⟩ (Nat.le_refl _) (fun a ha => by cases ha); have HC11 := Lib.hid hb11; have HB11 := Lib.hid hb11'; clear h11 hb11 hb11')
          | (go_at_call 32; refine hrt2.mono ?_; clear hrt2; intro e w12 h12; obtain ⟨rfl, hb12⟩ := h12.at_some (t := wEnd) (by rw [HEND.out]; exact textA_empty _); have hb12' := HB11.out.trans (hb12.mono HB11.out.size); have HB12 := Lib.hid hb12'; have hps := HPS.out w12 hb12'; clear h12 hb12 hb12')
          | (go_at_call 33; refine hps.mono ?_; clear hps; intro e w13 h13; obtain ⟨rfl, hb13⟩ := h13.at_none HSH2.out; have HB13 := Lib.hid (HB12.out.trans (hb13.mono HB12.out.size)); clear h13 hb13))
        go_ret
        exact ⟨rfl, HB13.out⟩
      | some L =>
        have HPN := Lib.hid hpt
        have HPX := Lib.hid (parse_text hpt)
        clear hpt
        go_wp2_with (first
          | (go_at_call 33; refine (HPT.out _ HBD.out).mono ?_; clear HPT; intro e w11 h11; obtain ⟨A11, n11, c11, l11, rfl, hl11, hat11, hsm11, hb11⟩ := h11.at_some HPN.out; have hb11' := HBD.out.trans (hb11.mono HBD.out.size); have hrt2 := refText21_any hat11 (Nat.le_refl _) hsm11; have HL11 := Lib.hid hl11; have HC11 := Lib.hid hb11; have HB11 := Lib.hid hb11'; clear h11 hb11 hb11' hl11 hat11 hsm11)
          | (go_at_call 32; refine hrt2.mono ?_; clear hrt2; intro e w12 h12; obtain ⟨rfl, hb12⟩ := h12.at_some (t := t) (by rw [HL11.out]; exact HPX.out); have hb12' := HB11.out.trans (hb12.mono HB11.out.size); have HC12 := Lib.hid (HC11.out.trans (hb12.mono HC11.out.size)); have HB12 := Lib.hid hb12'; have hps := HPS.out w12 hb12'; clear h12 hb12 hb12')
          | (go_at_call 33; refine hps.mono ?_; clear hps; intro e w13 h13; obtain ⟨rfl, hb13⟩ := h13.at_none HSH2.out; have hcv3 := HCV.out w13 (HC12.out.trans (hb13.mono HC12.out.size)); have HB13 := Lib.hid (HB12.out.trans (hb13.mono HB12.out.size)); clear h13 hb13))
        go_ret
        exact ⟨rfl, HB13.out⟩
end Go.Proofs.YtibndaianhlcaaaGreatDoor
namespace Go.Proofs.YtibndaianhlcaaaGreatDoor
open Go.ChangeShapes Go.WideShapes
set_option linter.unusedVariables false
set_option linter.unusedSimpArgs false

namespace Bulk
theorem one_le {H : Type} (d : DataW H) : 1 ≤ Rows.uptoBulk d := by
  cases d with
  | lit l => cases l <;> simp [Rows.uptoBulk]
  | nil => simp [Rows.uptoBulk]
  | ptr d => simp [Rows.uptoBulk]
  | slice elems spare => simp [Rows.uptoBulk]
  | agg parts => simp [Rows.uptoBulk]
  | iface t d => simp [Rows.uptoBulk]
  | map entries => simp [Rows.uptoBulk]
  | held h => simp [Rows.uptoBulk]
theorem part_le {H : Type} {d : DataW H} {l : List (DataW H)} (h : d ∈ l) : Rows.uptoBulk d ≤ Rows.uptoBulkAll l := by
  induction l with
  | nil => cases h
  | cons x r ih =>
    simp only [Rows.uptoBulkAll]
    cases List.mem_cons.1 h with
    | inl e => subst e; omega
    | inr e => have := ih e; omega
theorem length_le {H : Type} (l : List (DataW H)) : l.length ≤ Rows.uptoBulkAll l := by
  induction l with
  | nil => simp [Rows.uptoBulkAll]
  | cons x r ih => have := one_le x; simp only [Rows.uptoBulkAll, List.length_cons]; omega
theorem slice_elems {H : Type} (elems spare : List (DataW H)) : Rows.uptoBulkAll elems + 1 ≤ Rows.uptoBulk (.slice elems spare) := by
  simp only [Rows.uptoBulk]
  omega
theorem agg {H : Type} (l : List (DataW H)) : Rows.uptoBulkAll l + 1 = Rows.uptoBulk (.agg l) := by simp only [Rows.uptoBulk]
theorem string_eq {H : Type} (bytes : List UInt8) : Rows.uptoBulk (DataW.lit (H := H) (.string bytes)) = bytes.length + 1 := by
  simp [Rows.uptoBulk]
theorem bound {H : Type} {l : List (DataW H)} (hk : Rows.uptoSmall H l = true) : Rows.uptoBulkAll l ≤ 1048576 := by
  simpa [Rows.uptoSmall] using hk
theorem slice_spare {H : Type} (elems spare : List (DataW H)) : elems.length + spare.length + 1 ≤ Rows.uptoBulk (.slice elems spare) := by
  have h1 := length_le elems
  have h2 := length_le spare
  simp only [Rows.uptoBulk]
  omega
end Bulk
end Go.Proofs.YtibndaianhlcaaaGreatDoor
