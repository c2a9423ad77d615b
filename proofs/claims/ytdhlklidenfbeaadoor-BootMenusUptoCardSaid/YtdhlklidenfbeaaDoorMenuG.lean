/- The walk of the reference's Remove (layer 22). -/
import Derived.Test.YtdhlklidenfbeaaDoorMenuF
namespace Go.Proofs.YtdhlklidenfbeaaDoor
open Go.RowKit
set_option linter.unusedVariables false
set_option linter.unusedSimpArgs false

section
attribute [local go_sem ↓] load_menu_mark store_menu_mark
set_option maxRecDepth 100000 in
set_option maxHeartbeats 2000000 in
theorem refRemove_any {w : World} {B : Nat} {A : Option Addr} {n c : Nat} {m : Menu} (h : GensAt w B A n c m.gens) (hB : B ≤ w.heap.size) (hpl : ∀ g ∈ m.gens, g.path.length ≤ 1000000000) (hn : n ≤ 1000000000) (num : Int) :
    Calls Tryd.prog 36 #[menuV m A n c, .int .i64 num] w fun e w' => ∃ v, e = .returned (.tuple #[v, .int .i64 (removeM m num).err]) ∧ MenuGot w w' (removeM m num).menu v := by
  obtain ⟨W2, hW2⟩ : ∃ W2, W2 = (w.alloc (.cells #[.int .i64 m.last, .int .i64 m.def_, .int .i64 m.next, .int .i64 m.trial, .slice A n c] 63)).alloc (.cells #[.int .i64 0, .int .i64 0, .int .i64 0, .int .i64 0, .slice none 0 0] 63) := ⟨_, rfl⟩
  obtain ⟨hb2, hz2, hM2, hR2⟩ := pre2 m A n c w W2 hW2
  have hf := may_any (h.below (hb2.mono hB)) (Nat.le_trans hB hb2.size) hpl num
  have hl2 := MenuBlk.load hM2
  have H := Lib.hid (And.intro hb2 (And.intro hz2 (And.intro hM2 hR2)))
  have HG := Lib.hid (fun (W' : World) (hw : ∀ p : Addr, p.block < w.heap.size → W'.cell? p = w.cell? p) => fun (k : Nat) (hk : k < n) => (show GensAt W' B A n c m.gens from ⟨h.slc.keep (fun p hp => hw p (Nat.lt_of_lt_of_le hp hB)), h.len⟩).at_ hk)
  have hlen := h.len
  clear hb2 hz2 hM2 hR2 h
  rw [hW2] at hf hl2
  have e0 : menuV m A n c = .agg #[.int .i64 m.last, .int .i64 m.def_, .int .i64 m.next, .int .i64 m.trial, .slice A n c] := rfl
  by_cases he : findE m num = 0
  case neg =>
    have H1 := Lib.hid (show removeM m num = refuse (findE m num) by unfold removeM; rw [if_pos he])
    have hne : (findE m num != 0) = true := by simpa using he
    generalize findE m num = e at *
    clear he
    rw [e0]
    go_enter Tryd.func36, Tryd.ntmps36
    go_wp2_with (go_at_call 79; refine hf.mono ?_; clear hf; rintro e2 w3 ⟨rfl, hb3⟩; rw [← hW2] at hb3; have hR3 := H.out.2.2.2.below hb3 H.out.2.2.2.lt; have hst := store_menu hR3 rfl 0 0 0 0 none 0 0)
    refine bodyPost_ret (res_menu2 (t := 4) (u := 5) (g := w.heap.size + 1) rfl rfl (hR3.row _) rfl) rfl ⟨menuV zeroM none 0 0, by rw [H1.out]; rfl, ?_⟩
    rw [H1.out]
    exact refused_any (H.out.1.trans (hb3.mono H.out.1.size)) hR3
  case pos =>
  rw [he] at hf
  by_cases hkp : num = m.def_ ∨ num = m.next ∨ num = m.trial
  · have H1 := Lib.hid (show removeM m num = refuse 68 by unfold removeM; rw [if_neg (by rw [he]; decide), if_pos hkp])
    have hcs : num = m.def_ ∨ (num ≠ m.def_ ∧ num = m.next) ∨ (num ≠ m.def_ ∧ num ≠ m.next ∧ num = m.trial) := by omega
    clear he hkp hlen
    rw [e0]
    have key : ∀ x y z : Bool, (m.def_ == num) = x → (m.next == num) = y → (m.trial == num) = z → (x || y || z) = true →
        Calls Tryd.prog 36 #[.agg #[.int .i64 m.last, .int .i64 m.def_, .int .i64 m.next, .int .i64 m.trial, .slice A n c], .int .i64 num] w fun e w' => ∃ v, e = .returned (.tuple #[v, .int .i64 (removeM m num).err]) ∧ MenuGot w w' (removeM m num).menu v := by
      intro x y z hx hy hz hxyz
      clear hcs
      cases x
      all_goals cases y
      all_goals cases z
      all_goals first
        | (exact absurd hxyz (by decide))
        | (clear hxyz
           go_enter Tryd.func36, Tryd.ntmps36
           go_wp2_with (go_at_call 79; refine hf.mono ?_; clear hf; rintro e2 w3 ⟨rfl, hb3⟩; rw [← hW2] at hb3; have hR3 := H.out.2.2.2.below hb3 H.out.2.2.2.lt; obtain ⟨m0, m1, m2, m3, m4, mf⟩ := MenuBlk.facts (show MenuBlk w3 w.heap.size m A n c from H.out.2.2.1.below hb3 H.out.2.2.1.lt); have hst := store_menu hR3 rfl 0 0 0 0 none 0 0)
           refine bodyPost_ret (res_menu2 (t := 4) (u := 5) (g := w.heap.size + 1) rfl rfl (hR3.row _) rfl) rfl ⟨menuV zeroM none 0 0, by rw [H1.out]; rfl, ?_⟩
           rw [H1.out]
           exact refused_any (H.out.1.trans (hb3.mono H.out.1.size)) hR3)
    exact key _ _ _ rfl rfl rfl (by
      rcases hcs with h1 | ⟨_, h1⟩ | ⟨_, _, h1⟩
      · simp [h1]
      · simp [h1]
      · simp [h1])
  · have H1 := Lib.hid (show removeM m num = ⟨0, { m with gens := dropG m.gens num }⟩ by unfold removeM; rw [if_neg (by rw [he]; decide), if_neg hkp])
    have k0 : (m.def_ == num) = false := by simp; omega
    have k1 : (m.next == num) = false := by simp; omega
    have k2 : (m.trial == num) = false := by simp; omega
    have hn62 : n ≤ 9223372036854775807 := by omega
    have HLEN := Lib.hid hlen
    clear he hkp hlen
    rw [e0]
    go_enter Tryd.func36, Tryd.ntmps36
    go_wp2_with (first
      | (go_at_call 79; refine hf.mono ?_; clear hf; rintro e2 w3 ⟨rfl, hb3⟩; rw [← hW2] at hb3; have HW3 := H.out.1.trans (hb3.mono H.out.1.size); have hR3 := H.out.2.2.2.below hb3 H.out.2.2.2.lt; have hM3 : MenuBlk w3 w.heap.size m A n c := H.out.2.2.1.below hb3 H.out.2.2.1.lt; obtain ⟨m0, m1, m2, m3, m4, mf⟩ := hM3.facts; have hwt := with_any (l := []) (gens_nil w3 0) (Nat.zero_le _) (Nat.zero_le _) m.last m.def_ m.next m.trial)
      | (go_at_call 77; refine hwt.mono ?_; clear hwt m0 m1 m2 m3 m4 mf; rintro e5 w5 ⟨v5, rfl, hg5⟩; have hb5 := hg5.choose_spec.choose_spec.choose_spec.2.2; have hR5 := hR3.below hb5 hR3.lt; have hM5 := hM3.below hb5 hM3.lt; obtain ⟨A6, n6, c6, rfl, hs6, hl6, hB6, ho6, hbW6, hR6⟩ := got_new4 hg5 hR5; obtain rfl : n6 = 0 := (by have h1 : ([] : List Gen).length = n6 := (own_gens (got_own hg5)).len; exact h1.symm); have hz3 := hM3.lt; have hz3' := hR3.lt; have hz5 := hb5.size; have HRA := Lib.hid (show RemAt w _ w5.heap.size (w.heap.size + 1) w.heap.size m A n c [] A6 0 c6 from ⟨hB6, hR6, Blk.row_far (Blk.alloc hM5 _) (by omega) _, own_mono ho6 HW3.size, (fun e => absurd ((got_own hg5).lt _ e).2 (Nat.lt_irrefl _)), own_ne ho6 hR3.lt, own_ne ho6 hM3.lt, HW3.trans (hbW6.mono HW3.size), by omega, by omega, by omega⟩)))
    go_loopw [8] (fun i wr => ∃ (k : Nat) (A8 : Option Addr) (j k8 : Nat), k ≤ n ∧ i = .int .i64 (k : Int) ∧ Aside (RemAt w wr w5.heap.size (w.heap.size + 1) w.heap.size m A n c (dropG (m.gens.take k) num) A8 j k8)) (fun i _ => n - (intOf i).toNat)
    case atStart => exact ⟨0, A6, 0, c6, Nat.zero_le _, rfl, HRA.out⟩
    case round =>
      obtain ⟨k, A8, j, k8, hk, rfl, hR⟩ := hrel
      obtain ⟨_, _, _, _, t4, tf⟩ := hR.out.box.facts
      by_cases hlt : k < n
      · obtain ⟨b, off, rfl, hbB, hl, d0, d1⟩ := HG.out wr (fun p hp => hR.out.bel.cell hp) k hlt
        have hbl : b < w.heap.size := Nat.lt_of_lt_of_le hbB hB
        by_cases hnum : m.gens[k].num = num
        · have HX := Lib.hid (dropG_miss m.gens num k hl hnum)
          have hq : (m.gens[k].num != num) = false := by simpa using hnum
          clear hnum
          generalize m.gens[k] = g at *
          go_wp2_with (fail)
          exact ⟨⟨k + 1, A8, j, k8, by omega, by go_num, by rw [HX.out]; exact hR.out⟩, by simp [intOf]; omega⟩
        · have HX := Lib.hid (dropG_keep m.gens num k hl hnum)
          have hq : (m.gens[k].num != num) = true := by simpa using hnum
          have hjl : j ≤ 1000000000 := by
            have h1 := (own_gens hR.out.own).len
            have h2 : (dropG (m.gens.take k) num).length ≤ (m.gens.take k).length := List.length_filter_le ..
            have h3 := List.length_take_le k m.gens
            omega
          clear hnum
          generalize m.gens[k] = g at *
          have hdr : Below wr.heap.size wr wr.drew := (Below.refl _ wr).drew
          have HAP := Lib.hid (hR.out.drew.append hjl g)
          have HK := Lib.hid (fun (W' : World) (hw : Below wr.heap.size wr W') => show W'.cell? ⟨w5.heap.size, 4, none⟩ = some (.slice A8 j k8) ∧ W'.cell? ⟨w.heap.size, 4, none⟩ = some (.slice (some ⟨b, off, none⟩) n c) ∧ W'.cell? ⟨b, off + k * 2, none⟩ = some (.int .i64 g.num) ∧ W'.cell? ⟨b, off + k * 2 + 1, none⟩ = some (.string ⟨g.path.toArray⟩) from
            ⟨(hw.cell (p := ⟨w5.heap.size, 4, none⟩) hR.out.mine.lt).trans (hR.out.mine.cell 4), (hw.cell (p := ⟨w.heap.size, 4, none⟩) hR.out.box.lt).trans t4, (hw.cell (p := ⟨b, off + k * 2, none⟩) (Nat.lt_of_lt_of_le hbl hR.out.bel.size)).trans d0, (hw.cell (p := ⟨b, off + k * 2 + 1, none⟩) (Nat.lt_of_lt_of_le hbl hR.out.bel.size)).trans d1⟩)
          have hda := hdr.alloc (Nat.le_refl _) (.cells #[.int .i64 g.num, .string ⟨g.path.toArray⟩] 69)
          have D0 := Lib.hid d0
          have D1 := Lib.hid d1
          have HBEL := Lib.hid hR.out.bel
          go_wp2_with (fail)
          have t5 : wr.cell? ⟨w5.heap.size, 4, none⟩ = some (.slice A8 j k8) := hR.out.mine.cell 4
          have hMlt := hR.out.mine.lt
          have hTlt := hR.out.box.lt
          have hbw : b < wr.heap.size := Nat.lt_of_lt_of_le hbl hR.out.bel.size
          go_region_law (refine step_append_ex (by rfl) _ _ _ (by rfl) (by rfl) (by rfl) _ HAP.out ?_; rintro v8 w8 ⟨A9, k9, rfl, hR9, q0, q1, q2, q3⟩; have HR9 := Lib.hid hR9; clear hR9 q2 q3)
          all_goals go_wp2_with (fail)
          all_goals exact ⟨⟨k + 1, A9, j + 1, k9, by omega, by go_num, by rw [HX.out]; exact HR9.out⟩, by simp [intOf]; omega⟩
      · obtain rfl : k = n := by omega
        have HRR := Lib.hid (show RemAt w wr w5.heap.size (w.heap.size + 1) w.heap.size m A k c (dropG m.gens num) A8 j k8 by have h1 := hR.out; rw [List.take_of_length_le (by rw [HLEN.out]; exact Nat.le_refl _)] at h1; exact h1)
        have hl9 := load_menu hR.out.mine
        have hst9 := store_menu hR.out.ret rfl m.last m.def_ m.next m.trial A8 j k8
        go_wp2_with (fail)
        refine bodyPost_ret (res_menu2 (t := 4) (u := 5) (g := w.heap.size + 1) rfl rfl (HRR.out.ret.row _) rfl) rfl ⟨menuV { m with gens := dropG m.gens num } A8 j k8, by rw [H1.out]; rfl, ?_⟩
        rw [H1.out]
        exact ⟨A8, j, k8, rfl, own_row HRR.out.own HRR.out.nR _, below_row HRR.out.bel (by omega) _⟩
end
end Go.Proofs.YtdhlklidenfbeaaDoor
