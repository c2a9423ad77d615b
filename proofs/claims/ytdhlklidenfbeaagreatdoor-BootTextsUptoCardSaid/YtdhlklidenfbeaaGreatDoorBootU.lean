/- The walk of boot.Text. -/
import Derived.Test.YtdhlklidenfbeaaGreatDoorBootT
namespace Go.Proofs.YtdhlklidenfbeaaGreatDoor
open Go.RowKit Go.Sort
set_option linter.unusedVariables false
set_option linter.unusedSimpArgs false

section
attribute [local go_sem ↓] index4_0 index4_1 index4_2 index4_3 load_menu_mark
set_option maxRecDepth 100000 in
set_option maxHeartbeats 8000000 in
theorem btext_any {w : World} {B : Nat} {A : Option Addr} {n c : Nat} {m : Menu} (h : GensAt w B A n c m.gens) (hB : B ≤ w.heap.size) (hpl : ∀ g ∈ m.gens, g.path.length ≤ 1000000000) (hit : menuB m = true → ItoaMenu w m) :
    Calls Tryz.prog 7 #[menuV m A n c] w fun e w' => e = .returned (.string ⟨(textM m).toArray⟩) ∧ Below w.heap.size w w' := by
  obtain ⟨W1, hW1⟩ : ∃ W1, W1 = w.alloc (.cells #[.int .i64 m.last, .int .i64 m.def_, .int .i64 m.next, .int .i64 m.trial, .slice A n c] 24) := ⟨_, rfl⟩
  have hb1 : Below w.heap.size w W1 := by rw [hW1]; exact (Below.refl _ w).alloc (Nat.le_refl _) _
  have hM1 : Blk W1 w.heap.size 24 #[.int .i64 m.last, .int .i64 m.def_, .int .i64 m.next, .int .i64 m.trial, .slice A n c] := by rw [hW1]; exact Blk.new _ _ _
  have hr := right_any (h.below (hb1.mono hB)) (Nat.le_trans hB hb1.size) hpl
  have hl1 := load_menu hM1
  rw [hW1] at hr hl1
  have HB1 := Lib.hid hb1
  have HM1 := Lib.hid hM1
  have H := Lib.hid h
  have hlen := h.len
  clear hb1 hM1 h
  unfold menuV at hr ⊢
  cases hm : menuB m with
  | false =>
    have HT := Lib.hid (show textM m = [] by unfold textM; rw [hm]; rfl)
    rw [hm] at hr
    clear hm hit hlen
    go_enter Tryz.func7, Tryz.ntmps7
    go_wp2_with (go_at_call 8; refine hr.mono ?_; clear hr; rintro e2 w2 ⟨rfl, hb2⟩; rw [← hW1] at hb2)
    go_ret
    exact ⟨by rw [HT.out]; rfl, HB1.out.trans (hb2.mono HB1.out.size)⟩
  | true =>
    have hI := hit hm
    have hMO := (menuB_iff m).1 hm
    have h16 := hMO.head.2.2
    have HI := Lib.hid hI
    have HT := Lib.hid (show textM m = gensT m m.gens.length ++ [101, 110, 100, 10] by unfold textM; rw [hm]; rfl)
    have HHL := Lib.hid (lineT_length m w hI)
    have HGL := Lib.hid (gensT_length m w hI hpl h16)
    have HPL := Lib.hid hpl
    have HLEN := Lib.hid hlen
    rw [hm] at hr
    clear hm hit hMO hI hpl hlen
    go_enter Tryz.func7, Tryz.ntmps7
    go_wp2_with (first
      | (go_at_call 8; refine hr.mono ?_; clear hr; rintro e2 w2 ⟨rfl, hb2⟩; rw [← hW1] at hb2; have hM2 := HM1.out.below hb2 HM1.out.lt; have HB2 := Lib.hid (HB1.out.trans (hb2.mono HB1.out.size)); have HM2 := Lib.hid hM2; have hlt2 := hM2.lt; have hsz2 := HB2.out.size; have hbd := builder_new (w2.alloc (.cells wordsC 50)) w.heap.size (by simp; omega); rw [World.size_alloc] at hbd; have hws := ws_txt w.heap.size (w2.heap.size + 1) [] [109, 101, 110, 117, 10] ⟨#[109, 101, 110, 117, 10]⟩ rfl _ hbd (by decide) (by simp; omega); clear hbd hM2; unfold wordsC at hws)
      | (go_at_call 26; go_loud (refine hws.mono ?_; clear hws; rintro e4 w4 ⟨rfl, hd4, hb4, hk4⟩; have hM4 := blk_others ((HM2.out.alloc _).alloc _) hk4 (by omega) (by decide); have hW4 : Blk w4 w2.heap.size 50 wordsC := blk_others ((Blk.new w2 50 wordsC).alloc _) hk4 (by omega) (by decide); have hz4 : w2.heap.size + 1 < w4.heap.size := Nat.lt_of_lt_of_le (by simp) hb4.size; have hB4 := (((HB2.out.alloc (by omega) _).alloc (by rw [World.size_alloc]; omega) _).trans (hb4 : Below w.heap.size _ w4)); have HD4 := Lib.hid hd4; have HM4 := Lib.hid hM4; have HW4 := Lib.hid hW4; have HB4 := Lib.hid hB4; obtain ⟨m0, m1, m2, m3, m4, mf⟩ := menu_facts hM4; clear hd4 hk4 hb4 hM4 hW4 hB4)))
    clear hl1 hb2
    go_loopw [23] (fun i wr => ∃ j : Nat, (j = 0 ∧ i = .int .i64 0 ∨ j = 1 ∧ i = .int .i64 1 ∨ j = 2 ∧ i = .int .i64 2 ∨ j = 3 ∧ i = .int .i64 3 ∨ j = 4 ∧ i = .int .i64 4) ∧ Aside (Lib.IsBuilderF 53 5 w.heap.size (w2.heap.size + 1) (Lib.byteCells (headT m j)) wr) ∧ Aside (Blk wr w.heap.size 24 #[.int .i64 m.last, .int .i64 m.def_, .int .i64 m.next, .int .i64 m.trial, .slice A n c]) ∧ Aside (Blk wr w2.heap.size 50 wordsC) ∧ Aside (Below w.heap.size w wr) ∧ Aside (w2.heap.size + 1 < wr.heap.size)) (fun i _ => 4 - (intOf i).toNat)
    case atStart => exact ⟨0, .inl ⟨rfl, rfl⟩, HD4.out, HM4.out, HW4.out, HB4.out, hz4⟩
    clear hz4
    clear m0 m1 m2 m3 m4 mf
    case round =>
      obtain ⟨j, hcases, hD, hM, hW, hb, hlt⟩ := hrel
      have HK := Lib.hid (fun (W' : World) (h : Below wr.heap.size wr W') => words_facts (hW.out.below h hW.out.lt))
      have hbd : Below w.heap.size w wr.drew := hb.out.drew
      have HBD := Lib.hid hbd
      clear hbd
      rcases hcases with ⟨rfl, rfl⟩ | ⟨rfl, rfl⟩ | ⟨rfl, rfl⟩ | ⟨rfl, rfl⟩ | ⟨rfl, rfl⟩
      · have HI1 := Lib.hid HI.out.last
        have HL := Lib.hid (HHL.out 0)
        have hq1 : ¬ 9223372036854775807 < 5 + (Lib.itoa m.last).length := by have := HI1.out.short; omega
        have hq2 : ¬ 9223372036854775807 < 5 + (Lib.itoa m.last).length + 1 := by have := HI1.out.short; omega
        have hdr : Below wr.heap.size wr wr.drew := (Below.refl wr.heap.size wr).drew
        go_wp2_with (fail)
        go_region_held3 (fun W' => W'.cell? ⟨w2.heap.size, 0, none⟩ = some (.string ⟨#[108, 97, 115, 116, 32]⟩)) (first | exact (HK.out _ (by assumption)).1 | exact (words_facts HH.out.2.2.1).1) (first
          | (go_at_call 27; refine (HI1.out.run _ (by assumption)).mono ?_; rintro e5 w5 ⟨rfl, hb5⟩; have hbd5 : Below wr.heap.size wr w5 := hdr.trans hb5; have HB5 := Lib.hid (hb.out.trans (hbd5.mono hb.out.size)); have hws := ws_txt w.heap.size (w2.heap.size + 1) (headT m 0) (lineT lastW m.last) (⟨#[108, 97, 115, 116, 32]⟩ ++ ⟨(Lib.itoa m.last).toArray⟩ ++ ⟨#[10]⟩) (by simp [lineT, lastW]) w5 (builder_below hD.out hbd5) (by (have h1 := HL.out; have h2 := HI1.out.short; simp [lineT, lastW]; omega)) HB5.out.size)
          | (go_at_call 26; refine hws.mono ?_; clear hws; rintro e6 w6 ⟨rfl, hd6, hb6, hk6⟩; have HH := Lib.hid (And.intro hd6 (And.intro (blk_others (hM.out.below hbd5 hM.out.lt) hk6 (by omega) (by decide)) (And.intro (blk_others (hW.out.below hbd5 hW.out.lt) hk6 (by omega) (by decide)) (And.intro (HB5.out.trans hb6) (Nat.lt_of_lt_of_le hlt (Nat.le_trans hbd5.size hb6.size))))))))
        all_goals go_wp2_with (fail)
        all_goals exact ⟨⟨1, .inr (.inl ⟨rfl, rfl⟩), HH.out.1, HH.out.2.1, HH.out.2.2.1, HH.out.2.2.2.1, HH.out.2.2.2.2⟩, by decide⟩
      · have HI1 := Lib.hid HI.out.def_
        have HL := Lib.hid (HHL.out 1)
        have hq1 : ¬ 9223372036854775807 < 8 + (Lib.itoa m.def_).length := by have := HI1.out.short; omega
        have hq2 : ¬ 9223372036854775807 < 8 + (Lib.itoa m.def_).length + 1 := by have := HI1.out.short; omega
        have hdr : Below wr.heap.size wr wr.drew := (Below.refl wr.heap.size wr).drew
        go_wp2_with (fail)
        go_region_held3 (fun W' => W'.cell? ⟨w2.heap.size, 1, none⟩ = some (.string ⟨#[100, 101, 102, 97, 117, 108, 116, 32]⟩)) (first | exact (HK.out _ (by assumption)).2.1 | exact (words_facts HH.out.2.2.1).2.1) (first
          | (go_at_call 27; refine (HI1.out.run _ (by assumption)).mono ?_; rintro e5 w5 ⟨rfl, hb5⟩; have hbd5 : Below wr.heap.size wr w5 := hdr.trans hb5; have HB5 := Lib.hid (hb.out.trans (hbd5.mono hb.out.size)); have hws := ws_txt w.heap.size (w2.heap.size + 1) (headT m 1) (lineT defaultW m.def_) (⟨#[100, 101, 102, 97, 117, 108, 116, 32]⟩ ++ ⟨(Lib.itoa m.def_).toArray⟩ ++ ⟨#[10]⟩) (by simp [lineT, defaultW]) w5 (builder_below hD.out hbd5) (by (have h1 := HL.out; have h2 := HI1.out.short; simp [lineT, defaultW]; omega)) HB5.out.size)
          | (go_at_call 26; refine hws.mono ?_; clear hws; rintro e6 w6 ⟨rfl, hd6, hb6, hk6⟩; have HH := Lib.hid (And.intro hd6 (And.intro (blk_others (hM.out.below hbd5 hM.out.lt) hk6 (by omega) (by decide)) (And.intro (blk_others (hW.out.below hbd5 hW.out.lt) hk6 (by omega) (by decide)) (And.intro (HB5.out.trans hb6) (Nat.lt_of_lt_of_le hlt (Nat.le_trans hbd5.size hb6.size))))))))
        all_goals go_wp2_with (fail)
        all_goals exact ⟨⟨2, .inr (.inr (.inl ⟨rfl, rfl⟩)), HH.out.1, HH.out.2.1, HH.out.2.2.1, HH.out.2.2.2.1, HH.out.2.2.2.2⟩, by decide⟩
      · have HI1 := Lib.hid HI.out.next
        have HL := Lib.hid (HHL.out 2)
        have hq1 : ¬ 9223372036854775807 < 5 + (Lib.itoa m.next).length := by have := HI1.out.short; omega
        have hq2 : ¬ 9223372036854775807 < 5 + (Lib.itoa m.next).length + 1 := by have := HI1.out.short; omega
        have hdr : Below wr.heap.size wr wr.drew := (Below.refl wr.heap.size wr).drew
        go_wp2_with (fail)
        go_region_held3 (fun W' => W'.cell? ⟨w2.heap.size, 2, none⟩ = some (.string ⟨#[110, 101, 120, 116, 32]⟩)) (first | exact (HK.out _ (by assumption)).2.2.1 | exact (words_facts HH.out.2.2.1).2.2.1) (first
          | (go_at_call 27; refine (HI1.out.run _ (by assumption)).mono ?_; rintro e5 w5 ⟨rfl, hb5⟩; have hbd5 : Below wr.heap.size wr w5 := hdr.trans hb5; have HB5 := Lib.hid (hb.out.trans (hbd5.mono hb.out.size)); have hws := ws_txt w.heap.size (w2.heap.size + 1) (headT m 2) (lineT nextW m.next) (⟨#[110, 101, 120, 116, 32]⟩ ++ ⟨(Lib.itoa m.next).toArray⟩ ++ ⟨#[10]⟩) (by simp [lineT, nextW]) w5 (builder_below hD.out hbd5) (by (have h1 := HL.out; have h2 := HI1.out.short; simp [lineT, nextW]; omega)) HB5.out.size)
          | (go_at_call 26; refine hws.mono ?_; clear hws; rintro e6 w6 ⟨rfl, hd6, hb6, hk6⟩; have HH := Lib.hid (And.intro hd6 (And.intro (blk_others (hM.out.below hbd5 hM.out.lt) hk6 (by omega) (by decide)) (And.intro (blk_others (hW.out.below hbd5 hW.out.lt) hk6 (by omega) (by decide)) (And.intro (HB5.out.trans hb6) (Nat.lt_of_lt_of_le hlt (Nat.le_trans hbd5.size hb6.size))))))))
        all_goals go_wp2_with (fail)
        all_goals exact ⟨⟨3, .inr (.inr (.inr (.inl ⟨rfl, rfl⟩))), HH.out.1, HH.out.2.1, HH.out.2.2.1, HH.out.2.2.2.1, HH.out.2.2.2.2⟩, by decide⟩
      · have HI1 := Lib.hid HI.out.trial
        have HL := Lib.hid (HHL.out 3)
        have hq1 : ¬ 9223372036854775807 < 6 + (Lib.itoa m.trial).length := by have := HI1.out.short; omega
        have hq2 : ¬ 9223372036854775807 < 6 + (Lib.itoa m.trial).length + 1 := by have := HI1.out.short; omega
        have hdr : Below wr.heap.size wr wr.drew := (Below.refl wr.heap.size wr).drew
        go_wp2_with (fail)
        go_region_held3 (fun W' => W'.cell? ⟨w2.heap.size, 3, none⟩ = some (.string ⟨#[116, 114, 105, 97, 108, 32]⟩)) (first | exact (HK.out _ (by assumption)).2.2.2.1 | exact (words_facts HH.out.2.2.1).2.2.2.1) (first
          | (go_at_call 27; refine (HI1.out.run _ (by assumption)).mono ?_; rintro e5 w5 ⟨rfl, hb5⟩; have hbd5 : Below wr.heap.size wr w5 := hdr.trans hb5; have HB5 := Lib.hid (hb.out.trans (hbd5.mono hb.out.size)); have hws := ws_txt w.heap.size (w2.heap.size + 1) (headT m 3) (lineT trialW m.trial) (⟨#[116, 114, 105, 97, 108, 32]⟩ ++ ⟨(Lib.itoa m.trial).toArray⟩ ++ ⟨#[10]⟩) (by simp [lineT, trialW]) w5 (builder_below hD.out hbd5) (by (have h1 := HL.out; have h2 := HI1.out.short; simp [lineT, trialW]; omega)) HB5.out.size)
          | (go_at_call 26; refine hws.mono ?_; clear hws; rintro e6 w6 ⟨rfl, hd6, hb6, hk6⟩; have HH := Lib.hid (And.intro hd6 (And.intro (blk_others (hM.out.below hbd5 hM.out.lt) hk6 (by omega) (by decide)) (And.intro (blk_others (hW.out.below hbd5 hW.out.lt) hk6 (by omega) (by decide)) (And.intro (HB5.out.trans hb6) (Nat.lt_of_lt_of_le hlt (Nat.le_trans hbd5.size hb6.size))))))))
        all_goals go_wp2_with (fail)
        all_goals exact ⟨⟨4, .inr (.inr (.inr (.inr ⟨rfl, rfl⟩))), HH.out.1, HH.out.2.1, HH.out.2.2.1, HH.out.2.2.2.1, HH.out.2.2.2.2⟩, by decide⟩
      · obtain ⟨m0, m1, m2, m3, m4, mf⟩ := menu_facts hM.out
        have HD := Lib.hid (show Lib.IsBuilderF 53 5 w.heap.size (w2.heap.size + 1) (Lib.byteCells (gensT m 0)) wr by rw [gensT_zero]; exact hD.out)
        have hn62 : n ≤ 9223372036854775807 := by have := HLEN.out; omega
        have HM := Lib.hid hM.out
        have HB := Lib.hid hb.out
        have HLT := Lib.hid hlt.out
        go_wp2_with (fail)
        clear m0 m1 m2 m3 m4 mf HK HBD hD hM hW hb hlt
        go_loopw [39] (fun i wr => ∃ k : Nat, k ≤ n ∧ i = .int .i64 (k : Int) ∧ Aside (Lib.IsBuilderF 53 5 w.heap.size (w2.heap.size + 1) (Lib.byteCells (gensT m k)) wr) ∧ Aside (Below w.heap.size w wr) ∧ Aside (w2.heap.size + 1 < wr.heap.size)) (fun i _ => n - (intOf i).toNat)
        case atStart => exact ⟨0, Nat.zero_le _, rfl, HD.out, HB.out, HLT.out⟩
        clear HD HM HB HLT
        case round =>
          obtain ⟨k, hk, rfl, hD, hb, hlt⟩ := hrel
          by_cases hkn : k < n
          · obtain ⟨bg, off, rfl, hbB, hl, d0, d1⟩ := (H.out.below (hb.out.mono hB)).at_ hkn
            have hbl : bg < wr.heap.size := Nat.lt_of_lt_of_le hbB (Nat.le_trans hB hb.out.size)
            have HG1 := Lib.hid (HI.out.gens _ (List.getElem_mem hl))
            have HG2 := Lib.hid (HPL.out _ (List.getElem_mem hl))
            have HG3 := Lib.hid (gensT_succ m k hl)
            have HG4 := Lib.hid (HGL.out k)
            generalize m.gens[k] = g at *
            obtain ⟨Wg, hWg⟩ : ∃ Wg, Wg = wr.alloc (.cells #[.int .i64 g.num, .string ⟨g.path.toArray⟩] 61) := ⟨_, rfl⟩
            have hbg : Below wr.heap.size wr Wg := by rw [hWg]; exact (Below.refl _ wr).alloc (Nat.le_refl _) _
            have hGb : Blk Wg wr.heap.size 61 #[.int .i64 g.num, .string ⟨g.path.toArray⟩] := by rw [hWg]; exact Blk.new _ _ _
            have HK := Lib.hid (fun (W' : World) (h : Below Wg.heap.size Wg W') => show W'.cell? ⟨wr.heap.size, 0, none⟩ = some (.int .i64 g.num) ∧ W'.cell? ⟨wr.heap.size, 1, none⟩ = some (.string ⟨g.path.toArray⟩) from ⟨(hGb.below h hGb.lt).cell 0, (hGb.below h hGb.lt).cell 1⟩)
            have HGB := Lib.hid hGb
            have hdr : Below Wg.heap.size Wg Wg.drew := (Below.refl Wg.heap.size Wg).drew
            have HWG := Lib.hid (hb.out.trans (hbg.mono hb.out.size))
            have HBG := Lib.hid hbg
            have hq1 : ¬ 9223372036854775807 < 4 + (Lib.itoa g.num).length := by have := HG1.out.short; omega
            have hq2 : ¬ 9223372036854775807 < 4 + (Lib.itoa g.num).length + 1 := by have := HG1.out.short; omega
            have hq3 : ¬ 9223372036854775807 < 4 + (Lib.itoa g.num).length + 1 + g.path.length := by have := HG1.out.short; have := HG2.out; omega
            have hq4 : ¬ 9223372036854775807 < 4 + (Lib.itoa g.num).length + 1 + g.path.length + 1 := by have := HG1.out.short; have := HG2.out; omega
            clear hGb hbg
            subst hWg
            go_wp2_with (fail)
            go_region_held3 (fun W' => W'.cell? ⟨wr.heap.size, 0, none⟩ = some (.int .i64 g.num) ∧ W'.cell? ⟨wr.heap.size, 1, none⟩ = some (.string ⟨g.path.toArray⟩)) (first | exact HK.out _ (by assumption) | exact HH.out.2.2.2) (first
              | (go_at_call 27; refine (HG1.out.run _ (HWG.out.trans (hdr.mono HWG.out.size))).mono ?_; rintro e5 w5 ⟨rfl, hb5⟩; have hbd5 := hdr.trans hb5; have HB5 := Lib.hid (HWG.out.trans (hbd5.mono HWG.out.size)); have hws := ws_txt w.heap.size (w2.heap.size + 1) (gensT m k) (genT g) (⟨#[103, 101, 110, 32]⟩ ++ ⟨(Lib.itoa g.num).toArray⟩ ++ ⟨#[32]⟩ ++ ⟨g.path.toArray⟩ ++ ⟨#[10]⟩) (by simp [genT]) w5 (builder_below hD.out (HBG.out.trans (hbd5.mono HBG.out.size))) (by (have h1 := HG4.out; have h2 := genT_length HG1.out HG2.out; omega)) HB5.out.size)
              | (go_at_call 26; refine hws.mono ?_; clear hws; rintro e6 w6 ⟨rfl, hd6, hb6, hk6⟩; have hG6 := blk_others (HGB.out.below hbd5 HGB.out.lt) hk6 (by have := hlt.out; omega) (by decide); have HH := Lib.hid (And.intro hd6 (And.intro (HB5.out.trans hb6) (And.intro (Nat.lt_of_lt_of_le hlt.out (Nat.le_trans HBG.out.size (Nat.le_trans hbd5.size hb6.size))) (And.intro (hG6.cell 0) (hG6.cell 1)))))))
            all_goals go_wp2_with (fail)
            all_goals exact ⟨⟨k + 1, by omega, by go_num, by rw [HG3.out]; exact HH.out.1, HH.out.2.1, HH.out.2.2.1⟩, by simp [intOf]; omega⟩
          · obtain rfl : k = n := by omega
            have hws := ws_txt w.heap.size (w2.heap.size + 1) (gensT m k) [101, 110, 100, 10] ⟨#[101, 110, 100, 10]⟩ rfl wr hD.out (by (have h1 := HGL.out k; simp; omega)) hb.out.size
            go_wp2_with (first
              | (go_at_call 26; refine hws.mono ?_; clear hws; rintro e6 w6 ⟨rfl, hd6, hb6, hk6⟩; have HB6 := Lib.hid (hb.out.trans hb6); have hst := Tryz.Builder_String_any_k w.heap.size (w2.heap.size + 1) _ w6 hd6 HB6.out.size)
              | (go_at_call 28; refine hst.mono ?_; clear hst; rintro e7 w7 ⟨rfl, hd7, hb7, hk7⟩))
            go_ret
            exact ⟨by rw [HT.out, HLEN.out]; rfl, HB6.out.trans hb7⟩
end
end Go.Proofs.YtdhlklidenfbeaaGreatDoor
