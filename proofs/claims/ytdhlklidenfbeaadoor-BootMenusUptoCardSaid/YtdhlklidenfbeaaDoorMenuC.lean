/- The walks of the reference's Default, Next, Load (layer 22). -/
import Derived.Test.YtdhlklidenfbeaaDoorMenuB
namespace Go.Proofs.YtdhlklidenfbeaaDoor
open Go.RowKit
set_option linter.unusedVariables false
set_option linter.unusedSimpArgs false

section
attribute [local go_sem ↓] load_menu_mark store_menu_mark
set_option maxRecDepth 100000 in
set_option maxHeartbeats 1000000 in
theorem refDefault_any {w : World} {B : Nat} {A : Option Addr} {n c : Nat} {m : Menu} (h : GensAt w B A n c m.gens) (hB : B ≤ w.heap.size) (hpl : ∀ g ∈ m.gens, g.path.length ≤ 1000000000) (hn : n ≤ 1000000000) (num : Int) :
    Calls Tryd.prog 37 #[menuV m A n c, .int .i64 num] w fun e w' => ∃ v, e = .returned (.tuple #[v, .int .i64 (defaultM m num).err]) ∧ MenuGot w w' (defaultM m num).menu v := by
  obtain ⟨W2, hW2⟩ : ∃ W2, W2 = (w.alloc (.cells #[.int .i64 m.last, .int .i64 m.def_, .int .i64 m.next, .int .i64 m.trial, .slice A n c] 63)).alloc (.cells #[.int .i64 0, .int .i64 0, .int .i64 0, .int .i64 0, .slice none 0 0] 63) := ⟨_, rfl⟩
  obtain ⟨hb2, hz2, hM2, hR2⟩ := pre2 m A n c w W2 hW2
  have hf := may_any (h.below (hb2.mono hB)) (Nat.le_trans hB hb2.size) hpl num
  have hl2 := MenuBlk.load hM2
  have H := Lib.hid (And.intro hb2 (And.intro hz2 (And.intro hM2 hR2)))
  have HWI := Lib.hid (fun (w3 : World) (hb : Below w.heap.size w w3) (a b d t : Int) => with_any (h.below (hb.mono hB)) (Nat.le_trans hB hb.size) hn a b d t)
  clear hb2 hz2 hM2 hR2 h
  rw [hW2] at hf hl2
  have e0 : menuV m A n c = .agg #[.int .i64 m.last, .int .i64 m.def_, .int .i64 m.next, .int .i64 m.trial, .slice A n c] := rfl
  by_cases he : findE m num = 0
  case neg =>
    have H1 := Lib.hid (show defaultM m num = refuse (findE m num) by unfold defaultM; rw [if_pos he])
    have hne : (findE m num != 0) = true := by simpa using he
    generalize findE m num = e at *
    clear he
    rw [e0]
    go_enter Tryd.func37, Tryd.ntmps37
    go_wp2_with (go_at_call 79; refine hf.mono ?_; clear hf; rintro e2 w3 ⟨rfl, hb3⟩; rw [← hW2] at hb3; have hR3 := H.out.2.2.2.below hb3 H.out.2.2.2.lt; have hst := store_menu hR3 rfl 0 0 0 0 none 0 0)
    refine bodyPost_ret (res_menu2 (t := 4) (u := 5) (g := w.heap.size + 1) rfl rfl (hR3.row _) rfl) rfl ⟨menuV zeroM none 0 0, by rw [H1.out]; rfl, ?_⟩
    rw [H1.out]
    exact refused_any (H.out.1.trans (hb3.mono H.out.1.size)) hR3
  case pos =>
    have H1 := Lib.hid (show defaultM m num = ⟨0, { m with def_ := num, next := 0, trial := 0 }⟩ by unfold defaultM; rw [if_neg (by rw [he]; decide)])
    rw [he] at hf
    clear he
    rw [e0]
    go_enter Tryd.func37, Tryd.ntmps37
    go_wp2_with (first
      | (go_at_call 79; refine hf.mono ?_; clear hf; rintro e2 w3 ⟨rfl, hb3⟩; rw [← hW2] at hb3; have HW3 := H.out.1.trans (hb3.mono H.out.1.size); have hM3 : MenuBlk w3 w.heap.size m A n c := H.out.2.2.1.below hb3 H.out.2.2.1.lt; have hR3 := H.out.2.2.2.below hb3 H.out.2.2.2.lt; obtain ⟨m0, m1, m2, m3, m4, mf⟩ := hM3.facts; have ho := HWI.out w3 HW3 m.last num 0 0)
      | (go_at_call 77; refine ho.mono ?_; clear ho; rintro e4 w4 ⟨v4, rfl, hg4⟩; obtain ⟨A4, n4, c4, rfl, hs4, hB4, ho4, hb4⟩ := got_set2 hg4 hR3 rfl))
    refine bodyPost_ret (res_menu2 (t := 4) (u := 5) (g := w.heap.size + 1) rfl rfl hB4 rfl) rfl ⟨_, by rw [H1.out]; rfl, ?_⟩
    rw [H1.out]
    exact ⟨A4, n4, c4, rfl, own_mono ho4 HW3.size, HW3.trans (hb4.mono (by omega))⟩
set_option maxRecDepth 100000 in
set_option maxHeartbeats 1000000 in
theorem refNext_any {w : World} {B : Nat} {A : Option Addr} {n c : Nat} {m : Menu} (h : GensAt w B A n c m.gens) (hB : B ≤ w.heap.size) (hpl : ∀ g ∈ m.gens, g.path.length ≤ 1000000000) (hn : n ≤ 1000000000) (num : Int) :
    Calls Tryd.prog 38 #[menuV m A n c, .int .i64 num] w fun e w' => ∃ v, e = .returned (.tuple #[v, .int .i64 (nextM m num).err]) ∧ MenuGot w w' (nextM m num).menu v := by
  obtain ⟨W2, hW2⟩ : ∃ W2, W2 = (w.alloc (.cells #[.int .i64 m.last, .int .i64 m.def_, .int .i64 m.next, .int .i64 m.trial, .slice A n c] 63)).alloc (.cells #[.int .i64 0, .int .i64 0, .int .i64 0, .int .i64 0, .slice none 0 0] 63) := ⟨_, rfl⟩
  obtain ⟨hb2, hz2, hM2, hR2⟩ := pre2 m A n c w W2 hW2
  have hf := may_any (h.below (hb2.mono hB)) (Nat.le_trans hB hb2.size) hpl num
  have hl2 := MenuBlk.load hM2
  have H := Lib.hid (And.intro hb2 (And.intro hz2 (And.intro hM2 hR2)))
  have HWI := Lib.hid (fun (w3 : World) (hb : Below w.heap.size w w3) (a b d t : Int) => with_any (h.below (hb.mono hB)) (Nat.le_trans hB hb.size) hn a b d t)
  clear hb2 hz2 hM2 hR2 h
  rw [hW2] at hf hl2
  have e0 : menuV m A n c = .agg #[.int .i64 m.last, .int .i64 m.def_, .int .i64 m.next, .int .i64 m.trial, .slice A n c] := rfl
  by_cases he : findE m num = 0
  case neg =>
    have H1 := Lib.hid (show nextM m num = refuse (findE m num) by unfold nextM; rw [if_pos he])
    have hne : (findE m num != 0) = true := by simpa using he
    generalize findE m num = e at *
    clear he
    rw [e0]
    go_enter Tryd.func38, Tryd.ntmps38
    go_wp2_with (go_at_call 79; refine hf.mono ?_; clear hf; rintro e2 w3 ⟨rfl, hb3⟩; rw [← hW2] at hb3; have hR3 := H.out.2.2.2.below hb3 H.out.2.2.2.lt; have hst := store_menu hR3 rfl 0 0 0 0 none 0 0)
    refine bodyPost_ret (res_menu2 (t := 4) (u := 5) (g := w.heap.size + 1) rfl rfl (hR3.row _) rfl) rfl ⟨menuV zeroM none 0 0, by rw [H1.out]; rfl, ?_⟩
    rw [H1.out]
    exact refused_any (H.out.1.trans (hb3.mono H.out.1.size)) hR3
  case pos =>
    have H1 := Lib.hid (show nextM m num = ⟨0, { m with next := num }⟩ by unfold nextM; rw [if_neg (by rw [he]; decide)])
    rw [he] at hf
    clear he
    rw [e0]
    go_enter Tryd.func38, Tryd.ntmps38
    go_wp2_with (first
      | (go_at_call 79; refine hf.mono ?_; clear hf; rintro e2 w3 ⟨rfl, hb3⟩; rw [← hW2] at hb3; have HW3 := H.out.1.trans (hb3.mono H.out.1.size); have hM3 : MenuBlk w3 w.heap.size m A n c := H.out.2.2.1.below hb3 H.out.2.2.1.lt; have hR3 := H.out.2.2.2.below hb3 H.out.2.2.2.lt; obtain ⟨m0, m1, m2, m3, m4, mf⟩ := hM3.facts; have ho := HWI.out w3 HW3 m.last m.def_ num m.trial)
      | (go_at_call 77; refine ho.mono ?_; clear ho; rintro e4 w4 ⟨v4, rfl, hg4⟩; obtain ⟨A4, n4, c4, rfl, hs4, hB4, ho4, hb4⟩ := got_set2 hg4 hR3 rfl))
    refine bodyPost_ret (res_menu2 (t := 4) (u := 5) (g := w.heap.size + 1) rfl rfl hB4 rfl) rfl ⟨_, by rw [H1.out]; rfl, ?_⟩
    rw [H1.out]
    exact ⟨A4, n4, c4, rfl, own_mono ho4 HW3.size, HW3.trans (hb4.mono (by omega))⟩
set_option maxRecDepth 100000 in
set_option maxHeartbeats 2000000 in
theorem refLoad_any {w : World} {B : Nat} {A : Option Addr} {n c : Nat} {m : Menu} (h : GensAt w B A n c m.gens) (hB : B ≤ w.heap.size) (hn : n ≤ 1000000000) :
    Calls Tryd.prog 41 #[menuV m A n c] w fun e w' => ∃ v, e = .returned (.tuple #[v, .int .i64 (loadN m), .bool (loadB m)]) ∧ MenuGot w w' (loadM m) v := by
  obtain ⟨W2, hW2⟩ : ∃ W2, W2 = (w.alloc (.cells #[.int .i64 m.last, .int .i64 m.def_, .int .i64 m.next, .int .i64 m.trial, .slice A n c] 63)).alloc (.cells #[.int .i64 0, .int .i64 0, .int .i64 0, .int .i64 0, .slice none 0 0] 63) := ⟨_, rfl⟩
  obtain ⟨hb2, hz2, hM2, hR2⟩ := pre2 m A n c w W2 hW2
  have H := Lib.hid (And.intro hb2 (And.intro hz2 (And.intro hM2 hR2)))
  have HWI := Lib.hid (fun (w3 : World) (hb : Below w.heap.size w w3) (a b d t : Int) => with_any (h.below (hb.mono hB)) (Nat.le_trans hB hb.size) hn a b d t)
  have HK := Lib.hid (fun (W' : World) (hw : Below W2.heap.size W2 W') => MenuBlk.facts (show MenuBlk W' w.heap.size m A n c from hM2.below hw hM2.lt))
  have hdr : Below W2.heap.size W2 W2.drew := (Below.refl _ W2).drew
  have k0 := HK.out W2 (Below.refl _ W2)
  obtain ⟨m0, m1, m2, m3, m4, mf⟩ := k0
  have e0 : menuV m A n c = .agg #[.int .i64 m.last, .int .i64 m.def_, .int .i64 m.next, .int .i64 m.trial, .slice A n c] := rfl
  clear hb2 hz2 hM2 hR2 h
  subst hW2
  by_cases he : m.next = 0
  case neg =>
    have H1 := Lib.hid (show loadM m = ⟨m.last, m.def_, 0, m.next, m.gens⟩ ∧ loadN m = m.next ∧ loadB m = true by unfold loadM loadN loadB; rw [if_pos he, if_pos he]; exact ⟨rfl, rfl, decide_eq_true he⟩)
    have hne : (m.next != 0) = true := by simpa using he
    clear he
    rw [e0]
    go_enter Tryd.func41, Tryd.ntmps41
    go_wp2_with (fail)
    go_region_held3 (fun W' => W'.cell? ⟨w.heap.size, 0, none⟩ = some (.int .i64 m.last) ∧ W'.cell? ⟨w.heap.size, 1, none⟩ = some (.int .i64 m.def_) ∧ W'.cell? ⟨w.heap.size, 2, none⟩ = some (.int .i64 m.next) ∧ W'.cell? ⟨w.heap.size, 3, none⟩ = some (.int .i64 m.trial) ∧ W'.cell? ⟨w.heap.size, 4, none⟩ = some (.slice A n c)) (first | (exact ⟨(HK.out _ (by assumption)).1, (HK.out _ (by assumption)).2.1, (HK.out _ (by assumption)).2.2.1, (HK.out _ (by assumption)).2.2.2.1, (HK.out _ (by assumption)).2.2.2.2.1⟩) | exact HQ.out) (first
      | (go_at_call 77; refine (HWI.out _ (H.out.1.trans (hdr.mono H.out.1.size)) m.last m.def_ 0 m.next).mono ?_; rintro e4 w4 ⟨v4, rfl, hg4⟩; have hq4 := hdr.trans hg4.choose_spec.choose_spec.choose_spec.2.2; have hQ := (HK.out w4 hq4); obtain ⟨A4, n4, c4, rfl, hs4, hB4, ho4, hb4⟩ := got_set2 hg4 (Blk.drew H.out.2.2.2) rfl; have HQ := Lib.hid (And.intro ((cells_far (show w.heap.size ≠ w.heap.size + 1 by omega) (mnCells ⟨m.last, m.def_, 0, m.next, m.gens⟩ A4 n4 c4) 0).trans hQ.1) (And.intro ((cells_far (show w.heap.size ≠ w.heap.size + 1 by omega) (mnCells ⟨m.last, m.def_, 0, m.next, m.gens⟩ A4 n4 c4) 1).trans hQ.2.1) (And.intro ((cells_far (show w.heap.size ≠ w.heap.size + 1 by omega) (mnCells ⟨m.last, m.def_, 0, m.next, m.gens⟩ A4 n4 c4) 2).trans hQ.2.2.1) (And.intro ((cells_far (show w.heap.size ≠ w.heap.size + 1 by omega) (mnCells ⟨m.last, m.def_, 0, m.next, m.gens⟩ A4 n4 c4) 3).trans hQ.2.2.2.1) ((cells_far (show w.heap.size ≠ w.heap.size + 1 by omega) (mnCells ⟨m.last, m.def_, 0, m.next, m.gens⟩ A4 n4 c4) 4).trans hQ.2.2.2.2.1)))))))
    all_goals go_wp2_with (fail)
    all_goals refine bodyPost_ret (res_menu3 (t := 2) (u := 3) (v := 4) (g := w.heap.size + 1) rfl rfl hB4 rfl) rfl ⟨_, by rw [H1.out.2.1, H1.out.2.2]; rfl, ?_⟩
    all_goals rw [H1.out.1]
    all_goals exact ⟨A4, n4, c4, rfl, own_mono ho4 H.out.1.size, H.out.1.trans ((hdr.mono H.out.1.size).trans (hb4.mono (by omega)))⟩
  case pos =>
    have H1 := Lib.hid (show loadM m = ⟨m.last, m.def_, 0, 0, m.gens⟩ ∧ loadN m = m.def_ ∧ loadB m = false by
      unfold loadM loadN loadB
      rw [if_neg (fun h => h he), if_neg (fun h => h he)]
      refine ⟨?_, rfl, decide_eq_false (fun h => h he)⟩
      rw [← he])
    have hne : (m.next != 0) = false := by rw [he]; rfl
    clear he
    rw [e0]
    go_enter Tryd.func41, Tryd.ntmps41
    go_wp2_with (fail)
    go_region_held3 (fun W' => W'.cell? ⟨w.heap.size, 0, none⟩ = some (.int .i64 m.last) ∧ W'.cell? ⟨w.heap.size, 1, none⟩ = some (.int .i64 m.def_) ∧ W'.cell? ⟨w.heap.size, 2, none⟩ = some (.int .i64 m.next) ∧ W'.cell? ⟨w.heap.size, 3, none⟩ = some (.int .i64 m.trial) ∧ W'.cell? ⟨w.heap.size, 4, none⟩ = some (.slice A n c)) (first | (exact ⟨(HK.out _ (by assumption)).1, (HK.out _ (by assumption)).2.1, (HK.out _ (by assumption)).2.2.1, (HK.out _ (by assumption)).2.2.2.1, (HK.out _ (by assumption)).2.2.2.2.1⟩) | exact HQ.out) (first
      | (go_at_call 77; refine (HWI.out _ (H.out.1.trans (hdr.mono H.out.1.size)) m.last m.def_ 0 0).mono ?_; rintro e4 w4 ⟨v4, rfl, hg4⟩; have hq4 := hdr.trans hg4.choose_spec.choose_spec.choose_spec.2.2; have hQ := (HK.out w4 hq4); obtain ⟨A4, n4, c4, rfl, hs4, hB4, ho4, hb4⟩ := got_set2 hg4 (Blk.drew H.out.2.2.2) rfl; have HQ := Lib.hid (And.intro ((cells_far (show w.heap.size ≠ w.heap.size + 1 by omega) (mnCells ⟨m.last, m.def_, 0, 0, m.gens⟩ A4 n4 c4) 0).trans hQ.1) (And.intro ((cells_far (show w.heap.size ≠ w.heap.size + 1 by omega) (mnCells ⟨m.last, m.def_, 0, 0, m.gens⟩ A4 n4 c4) 1).trans hQ.2.1) (And.intro ((cells_far (show w.heap.size ≠ w.heap.size + 1 by omega) (mnCells ⟨m.last, m.def_, 0, 0, m.gens⟩ A4 n4 c4) 2).trans hQ.2.2.1) (And.intro ((cells_far (show w.heap.size ≠ w.heap.size + 1 by omega) (mnCells ⟨m.last, m.def_, 0, 0, m.gens⟩ A4 n4 c4) 3).trans hQ.2.2.2.1) ((cells_far (show w.heap.size ≠ w.heap.size + 1 by omega) (mnCells ⟨m.last, m.def_, 0, 0, m.gens⟩ A4 n4 c4) 4).trans hQ.2.2.2.2.1)))))))
    all_goals go_wp2_with (fail)
    all_goals refine bodyPost_ret (res_menu3 (t := 2) (u := 3) (v := 4) (g := w.heap.size + 1) rfl rfl hB4 rfl) rfl ⟨_, by rw [H1.out.2.1, H1.out.2.2]; rfl, ?_⟩
    all_goals rw [H1.out.1]
    all_goals exact ⟨A4, n4, c4, rfl, own_mono ho4 H.out.1.size, H.out.1.trans ((hdr.mono H.out.1.size).trans (hb4.mono (by omega)))⟩
end
end Go.Proofs.YtdhlklidenfbeaaDoor
