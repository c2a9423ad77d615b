/- activate.Acts: the steps to a system. -/
import Derived.Test.YtibndaianhlcaaaGreatDoorPart24
import Derived.Test.YtibndaianhlcaaaGreatDoorPart26
import Derived.Deep.DeepCutAuto
import Derived.Deep.CutBlock
import Derived.Deep.QuietTactic
import Derived.BigQuiet
namespace Go.Proofs.YtibndaianhlcaaaGreatDoor
open Go.RowKit Go.Sort Go.Shelf
set_option linter.unusedVariables false
set_option linter.unusedSimpArgs false

/-- What Acts gives. -/
structure ActsOut (w w' : World) (A : Option Addr) (n c : Nat) (l : List AV) : Prop where
  at_ : ActsAt w' w'.heap.size A n c l
  row : ∀ x, A = some x → w.heap.size ≤ x.block ∧ x.block < w'.heap.size
  out : ∀ a ∈ l, ∀ x, (a.file.A = some x ∨ a.unit.A = some x ∨ a.unit.A2 = some x) → w.heap.size ≤ x.block ∧ x.block < w'.heap.size
  bel : Below w.heap.size w w'
def actsR (o s : SysP) : List ActP := if rightS s = true then actsS o s else []
theorem same_step {a b : List Srv} {k : Nat} (ha : k < a.length) (hb : k < b.length) (h : a.take k = b.take k) (e : a[k] = b[k]) : a.take (k + 1) = b.take (k + 1) := by
  rw [List.take_succ_eq_append_getElem ha, List.take_succ_eq_append_getElem hb, h, e]
theorem same_end : ∀ {a b : List Srv} {k : Nat}, k ≤ a.length → k ≤ b.length → a.take k = b.take k → (∀ (ha : k < a.length) (hb : k < b.length), a[k] ≠ b[k]) → sameN a b = k
  | [], b, k, h1, _, _, _ => by simp at h1; subst h1; cases b <;> rfl
  | x :: a, [], k, _, h2, _, _ => by simp at h2; subst h2; rfl
  | x :: a, y :: b, 0, _, _, _, h => by
    have h9 : x ≠ y := h (by simp) (by simp)
    unfold sameN
    rw [if_neg h9]
  | x :: a, y :: b, k + 1, h1, h2, ht, h => by
    rw [List.take_succ_cons, List.take_succ_cons] at ht
    injection ht with e1 e2
    unfold sameN
    rw [if_pos e1, same_end (k := k) (by simpa using h1) (by simpa using h2) e2 (fun ha hb => by
      have := h (by simpa using ha) (by simpa using hb)
      simpa using this)]
section
attribute [local go_sem ↓] slice_mark_unitA
set_option maxRecDepth 100000 in
set_option maxHeartbeats 16000000 in
theorem acts21_any {w : World} {B : Nat} {o s : OV} (ho : ObsAt w B o) (hs : ObsAt w B s) (hB : B ≤ w.heap.size) (hss : SmallO s) (hon : o.n ≤ 1048576 ∧ o.n2 ≤ 1048576 ∧ o.n3 ≤ 1048576) :
    Calls Tryz.prog 28 #[.agg (ovArr o), .agg (ovArr s)] w fun e w' => ∃ A n c l, e = .returned (.slice A n c) ∧ l.map AV.act = actsR (sysO o) (sysO s) ∧ ActsOut w w' A n c l := by
  obtain ⟨W1, hW1⟩ : ∃ W1, W1 = (w.alloc (.cells (ovArr o) 28)).alloc (.cells (ovArr s) 26) := ⟨_, rfl⟩
  have hb1 : Below w.heap.size w W1 := by rw [hW1]; exact (bel_new _ _).alloc (by simp) _
  have hz1 : W1.heap.size = w.heap.size + 2 := by rw [hW1]; simp
  have hG1 : Blk W1 w.heap.size 28 (ovArr o) := by rw [hW1]; exact (Blk.new _ _ _).alloc _
  have hG2 : Blk W1 (w.heap.size + 1) 26 (ovArr s) := by
    rw [hW1]
    have := Blk.new (w.alloc (.cells (ovArr o) 28)) 26 (ovArr s)
    rwa [World.size_alloc] at this
  have hr := right21_any (hs.below (hb1.mono hB)) (Nat.le_trans hB hb1.size) hss
  obtain ⟨p, hp⟩ : ∃ p, p = sysO s := ⟨_, rfl⟩
  obtain ⟨q, hq⟩ : ∃ q, q = sysO o := ⟨_, rfl⟩
  rw [← hp] at hr ⊢
  rw [← hq]
  obtain ⟨A, n, c, es, A2, n2, c2, uo, A3, n3, c3, vo⟩ := o
  obtain ⟨A', n', c', fs, A2', n2', c2', us, A3', n3', c3', vs⟩ := s
  obtain ⟨ho1, ho2, ho3⟩ := ho
  obtain ⟨hs1, hs2, hs3⟩ := hs
  obtain ⟨hn, hn2, hn3⟩ := hon
  simp only at ho1 ho2 ho3 hs1 hs2 hs3 hn hn2 hn3
  unfold ovArr at hr hG1 hG2 hW1 ⊢
  simp only at hr hG1 hG2 hW1 ⊢
  have hn' : n' ≤ 1048576 := hss.n
  have hn2' : n2' ≤ 1048576 := hss.n2
  have hn3' : n3' ≤ 1048576 := hss.n3
  have HSE := Lib.hid (show ∀ e ∈ fs, e.path.length ≤ 1048576 ∧ e.data.length ≤ 1048576 from hss.ents)
  have HSU := Lib.hid (show ∀ u ∈ vs, SmallU u from hss.units)
  have HP := Lib.hid (show p = ⟨fs.map EV.ent, us, vs.map SV.srv⟩ from hp)
  have HQ := Lib.hid (show q = ⟨es.map EV.ent, uo, vo.map SV.srv⟩ from hq)
  have HO1 := Lib.hid ho1
  have HO2 := Lib.hid ho2
  have HO3 := Lib.hid ho3
  have HS1 := Lib.hid hs1
  have HS2 := Lib.hid hs2
  have HS3 := Lib.hid hs3
  have HB := Lib.hid hB
  have HB1 := Lib.hid hb1
  have HG1 := Lib.hid hG1
  have HG2 := Lib.hid hG2
  have HZ1 := Lib.hid hz1
  have HW1 := Lib.hid hW1
  rw [hW1] at hr
  clear ho1 ho2 ho3 hs1 hs2 hs3 hss hB hb1 hG1 hG2 hz1 hW1 hp hq
  cases hrt : rightS p with
  | false =>
    have HX := Lib.hid (show actsR q p = [] by unfold actsR; rw [hrt]; rfl)
    rw [hrt] at hr
    clear hrt
    go_enter Tryz.func28, Tryz.ntmps28
    go_wp2_with (go_at_call 15; refine hr.mono ?_; clear hr; rintro e2 w2 ⟨rfl, hb2⟩; rw [← HW1.out] at hb2)
    go_ret
    exact ⟨none, 0, 0, [], rfl, by rw [HX.out]; rfl, ⟨slc_none _ _ _, rfl, (fun a ha => by cases ha)⟩, (fun x hx => by cases hx), (fun a ha => by cases ha), HB1.out.trans (hb2.mono HB1.out.size)⟩
  | true =>
    have HX := Lib.hid (show actsR q p = actsS q p by unfold actsR; rw [hrt]; rfl)
    rw [hrt] at hr
    clear hrt
    go_enter Tryz.func28, Tryz.ntmps28
    go_upto_block 0 with (go_at_call 15; refine hr.mono ?_; clear hr; rintro e2 w2 ⟨rfl, hb2⟩; rw [← HW1.out] at hb2; have HB2 := Lib.hid hb2; clear hb2)
    have HKW := Lib.hid (fun (W : World) (hW : Below w2.heap.size w2 W) => show Below w.heap.size w W ∧ Blk W w.heap.size 28 #[.slice A n c, .slice A2 n2 c2, .slice A3 n3 c3] ∧ Blk W (w.heap.size + 1) 26 #[.slice A' n' c', .slice A2' n2' c2', .slice A3' n3' c3'] from by
      have hz := HB1.out.size
      have hz2 := HB2.out.size
      have e1 := HB2.out.trans (hW.mono hz2)
      exact ⟨HB1.out.trans (e1.mono hz), HG1.out.below e1 HG1.out.lt, HG2.out.below e1 HG2.out.lt⟩)
    have HA0 := Lib.hid (ActsW.nil w2)
    have hb3 := bel_new w2 (.cells #[.slice none 0 0] 40)
    have HB3 := Lib.hid hb3
    have HLO := Lib.hid (show (vo.map SV.srv).length = n3 by rw [List.length_map, HO3.out.len])
    have HLS := Lib.hid (show (vs.map SV.srv).length = n3' by rw [List.length_map, HS3.out.len])
    clear hb3
    have HAG := Lib.hid (show w.heap.size ≤ w2.heap.size from Nat.le_trans HB1.out.size HB2.out.size)
    generalize w2.heap.size = g at *
    go_cut [7] (fun s7 wx => ∃ k0 : Nat, s7 = .int .i64 (k0 : Int) ∧ k0 = sameN (vo.map SV.srv) (vs.map SV.srv) ∧ k0 ≤ n3 ∧ k0 ≤ n3' ∧ ActsW wx g none 0 0 [] ∧ Below g w2 wx)
    case first =>
      go_wp2_with (fail)
      go_loopw [7] (fun i wr => ∃ k : Nat, k ≤ n3 ∧ k ≤ n3' ∧ i = .int .i64 (k : Int) ∧ Aside ((vo.map SV.srv).take k = (vs.map SV.srv).take k) ∧ Aside (ActsW wr g none 0 0 []) ∧ Aside (Below g w2 wr)) (fun i _ => n3 - (intOf i).toNat)
      case atStart => exact ⟨0, Nat.zero_le _, Nat.zero_le _, rfl, rfl, HA0.out, HB3.out⟩
      case round =>
        obtain ⟨k, hk, hk', rfl, htk, hac, hb⟩ := hrel
        obtain ⟨hbw, hx1, hx2⟩ := HKW.out _ hb.out
        have x1 := hx1.cell 2
        have x2 := hx2.cell 2
        simp only [List.getElem?_toArray, List.getElem?_cons_zero, List.getElem?_cons_succ] at x1 x2
        by_cases hlt : k < n3
        · have hd1 : decide ((k : Int) < (n3 : Int)) = true := decide_eq_true (by omega)
          by_cases hlt' : k < n3'
          · have hd2 : decide ((k : Int) < (n3' : Int)) = true := decide_eq_true (by omega)
            obtain ⟨b, off, rfl, hbB, hl, c0, c1, d22, d33, hS1, hS2⟩ := (HO3.out.below (hbw.mono HB.out)).at_ hlt
            obtain ⟨b', off', rfl, hbB', hl', d0, d1, e22, e33, hT1, hT2⟩ := (HS3.out.below (hbw.mono HB.out)).at_ hlt'
            have hal := alike21_any (w := wr.drew) vo[k] vs[k] hS1.drew hS2.drew hT1.drew hT2.drew (Nat.le_trans HB.out hbw.size)
            have hul : k < (vo.map SV.srv).length := by rw [HLO.out]; exact hlt
            have hul' : k < (vs.map SV.srv).length := by rw [HLS.out]; exact hlt'
            have HEQ := Lib.hid (fun (h9 : vo[k].srv = vs[k].srv) => same_step hul hul' htk.out (by rw [List.getElem_map, List.getElem_map, h9]))
            have HNE := Lib.hid (fun (h9 : ¬ vo[k].srv = vs[k].srv) => same_end (by omega) (by omega) htk.out (fun ha hb' => by rw [List.getElem_map, List.getElem_map]; exact h9))
            have HBW := Lib.hid hb.out
            have HAC := Lib.hid hac.out
            generalize vo[k] = u at *
            generalize vs[k] = v at *
            cases hsm : decide (u.srv = v.srv) with
            | true =>
              have HT := Lib.hid (HEQ.out (of_decide_eq_true hsm))
              rw [hsm] at hal
              unfold svArr at hal
              clear hsm HEQ HNE hbw hx1 hx2 hS1 hS2 hT1 hT2 hul hul' hb hac htk
              go_wp2_with (fail)
              refine region_tail 23 (by kernel_rfl) (by kernel_rfl) ?_
              simp only [List.take_succ_cons, List.take_zero, List.drop_succ_cons, List.drop_zero]
              repeat still_step
              refine wpStill_nil ?_
              go_wp2_with (go_at_call 51; refine hal.mono ?_; clear hal; rintro e4 w4 ⟨rfl, hb4⟩; have HB4 := Lib.hid ((Below.refl _ wr).drew.trans hb4); clear hb4)
              exact ⟨⟨k + 1, by omega, by omega, by go_num, HT.out, HAC.out.below HB4.out, HBW.out.trans (HB4.out.mono (Nat.le_of_lt HAC.out.var.lt))⟩, by simp [intOf]; omega⟩
            | false =>
              have HT := Lib.hid (HNE.out (of_decide_eq_false hsm))
              rw [hsm] at hal
              unfold svArr at hal
              clear hsm HEQ HNE hbw hx1 hx2 hS1 hS2 hT1 hT2 hul hul' hb hac htk
              go_wp2_with (fail)
              refine region_tail 23 (by kernel_rfl) (by kernel_rfl) ?_
              simp only [List.take_succ_cons, List.take_zero, List.drop_succ_cons, List.drop_zero]
              repeat still_step
              refine wpStill_nil ?_
              go_wp2_with (go_at_call 51; refine hal.mono ?_; clear hal; rintro e4 w4 ⟨rfl, hb4⟩; have HB4 := Lib.hid ((Below.refl _ wr).drew.trans hb4); clear hb4)
              go_meet
              case rel => exact ⟨k, rfl, HT.out.symm, by omega, by omega, HAC.out.below HB4.out, HBW.out.trans (HB4.out.mono (Nat.le_of_lt HAC.out.var.lt))⟩
          · obtain rfl : k = n3' := by omega
            have hd2 : decide ((k : Int) < (k : Int)) = false := decide_eq_false (by omega)
            have HT := Lib.hid (same_end (a := vo.map SV.srv) (b := vs.map SV.srv) (k := k) (by have := HLO.out; have := HLS.out; omega) (by have := HLO.out; have := HLS.out; omega) htk.out (fun ha hb' => by have := HLO.out; have := HLS.out; omega))
            have HBW := Lib.hid hb.out
            have HAC := Lib.hid hac.out
            clear hbw hx1 hx2 hb hac htk
            go_wp2_with (fail)
            go_quiet (fail)
            go_wp2_with (fail)
            go_meet
            case rel => exact ⟨k, rfl, HT.out.symm, by omega, by omega, HAC.out.below (bel_drewN (Below.refl _ _) _), HBW.out.trans (bel_drewN (Below.refl _ _) _)⟩
        · obtain rfl : k = n3 := by omega
          have hd1 : decide ((k : Int) < (k : Int)) = false := decide_eq_false (by omega)
          have HT := Lib.hid (same_end (a := vo.map SV.srv) (b := vs.map SV.srv) (k := k) (by have := HLO.out; have := HLS.out; omega) (by have := HLO.out; have := HLS.out; omega) htk.out (fun ha hb' => by have := HLO.out; have := HLS.out; omega))
          have HBW := Lib.hid hb.out
          have HAC := Lib.hid hac.out
          clear hbw hx1 hx2 hb hac htk
          go_wp2_with (fail)
          go_quiet (fail)
          go_wp2_with (fail)
          go_meet
          case rel => exact ⟨k, rfl, HT.out.symm, by omega, by omega, HAC.out.below (bel_drewN (Below.refl _ _) _), HBW.out.trans (bel_drewN (Below.refl _ _) _)⟩
    case rest =>
      obtain ⟨k0, rfl, hk0, hkn, hkn', hac, hb⟩ := hcut
      have HK0 := Lib.hid hk0
      have HAC := Lib.hid hac
      have HBC := Lib.hid hb
      clear hk0 hac hb
      have x1 := (HKW.out _ HBC.out).2.1.cell 2
      simp only [List.getElem?_toArray, List.getElem?_cons_zero, List.getElem?_cons_succ] at x1
      go_upto_block 2 with (fail)
      go_cut [8] (fun s8 wx => ∃ (A : Option Addr) (m c : Nat) (l : List AV), m ≤ n3 ∧ l.map AV.act = ((vo.map SV.srv).drop k0).reverse.map stopA ∧ ActsW wx g A m c l ∧ Below g w2 wx)
      case first =>
        go_wp2_with (fail)
        go_loopw [8] (fun i wr => ∃ (r : Nat) (z : Int), k0 ≤ r ∧ r ≤ n3 ∧ i = .int .i64 z ∧ z = (r : Int) - 1 ∧ ∃ (A : Option Addr) (m c : Nat) (l : List AV), m ≤ n3 - r ∧ Aside (l.map AV.act = ((vo.map SV.srv).drop r).reverse.map stopA) ∧ Aside (ActsW wr g A m c l) ∧ Aside (Below g w2 wr)) (fun i _ => (intOf i + 1).toNat)
        case atStart => exact ⟨n3, _, hkn, Nat.le_refl _, rfl, rfl, none, 0, 0, [], by omega, (show _ = _ by rw [List.drop_of_length_le (by rw [HLO.out]; exact Nat.le_refl _)]; rfl), HAC.out, HBC.out⟩
        case round =>
          obtain ⟨r, z, hr0, hr1, rfl, hz, A0, m, c0, l, hm, hmap, hac, hb⟩ := hrel
          obtain ⟨hbw, hx1, -⟩ := HKW.out _ hb.out
          have x1 := hx1.cell 2
          simp only [List.getElem?_toArray, List.getElem?_cons_zero, List.getElem?_cons_succ] at x1
          by_cases hlt : k0 < r
          · obtain ⟨r, rfl⟩ : ∃ r', r = r' + 1 := ⟨r - 1, by omega⟩
            obtain rfl : z = (r : Int) := by omega
            have hrn : r < n3 := by omega
            have hkr : (k0 : Int) ≤ (r : Int) := by omega
            obtain ⟨b, off, rfl, hbB, hl, d0, -, -, -, -, -⟩ := (HO3.out.below (hbw.mono HB.out)).at_ hrn
            have HM := Lib.hid (show (l ++ [(⟨1, vo[r].name, ev0, sv0⟩ : AV)]).map AV.act = ((vo.map SV.srv).drop r).reverse.map stopA by
              rw [List.map_append, hmap.out, List.drop_eq_getElem_cons (i := r) (by rw [HLO.out]; exact hrn), List.reverse_cons, List.map_append, List.getElem_map]
              rfl)
            generalize vo[r] = u at *
            have hadd := add21_any hac.out (ActNew.plain wr g A0 m c0 1 u.name) (by omega)
            have HBB := Lib.hid hb.out
            unfold avArr ev0 sv0 at hadd
            clear hmap hac hb hbw hx1 hz
            go_wp2_with (go_at_call 59; refine hadd.mono ?_; clear hadd; rintro e9 w9 ⟨A9, c9, rfl, h9, hb9⟩; have H9 := Lib.hid h9; have HB9 := Lib.hid hb9; clear h9 hb9)
            exact ⟨⟨r, _, by omega, by omega, rfl, rfl, A9, m + 1, c9, _, by omega, HM.out, H9.out, HBB.out.trans HB9.out⟩, by simp [intOf] <;> omega⟩
          · obtain rfl : r = k0 := by omega
            have hkr : ¬ (r : Int) ≤ z := by omega
            have HH := Lib.hid (And.intro hmap.out (And.intro hac.out hb.out))
            clear hmap hac hb hbw hx1 x1 hz
            go_wp2_with (fail)
            go_meet
            case rel => exact ⟨A0, m, c0, l, by omega, HH.out⟩
      case rest =>
        obtain ⟨A0, m0, c0, l0, hm0, hmap0, hac0, hb0⟩ := hcut
        have HM0 := Lib.hid hmap0
        have HAC0 := Lib.hid hac0
        have HBC0 := Lib.hid hb0
        clear hmap0 hac0 hb0
        have x1 := (HKW.out _ HBC0.out).2.1.cell 0
        simp only [List.getElem?_toArray, List.getElem?_cons_zero, List.getElem?_cons_succ] at x1
        go_upto_block 4 with (fail)
        go_cut [10] (fun s10 wx => ∃ (A : Option Addr) (m c : Nat) (l : List AV), m ≤ n3 + n ∧ l.map AV.act = ((vo.map SV.srv).drop k0).reverse.map stopA ++ ((es.map EV.ent).filter fun x => decide (x.path ∉ pathsE p.files)).map removeA ∧ ActsW wx g A m c l ∧ Below g w2 wx)
        case first =>
          go_wp2_with (fail)
          go_loopw [71] (fun i wr => ∃ k : Nat, k ≤ n ∧ i = .int .i64 (k : Int) ∧ ∃ (A : Option Addr) (m c : Nat) (l : List AV), m ≤ n3 + k ∧ Aside (l.map AV.act = ((vo.map SV.srv).drop k0).reverse.map stopA ++ ((((es.map EV.ent).take k).filter (fun x => decide (x.path ∉ pathsE p.files))).map removeA)) ∧ Aside (ActsW wr g A m c l) ∧ Aside (Below g w2 wr)) (fun i _ => n - (intOf i).toNat)
          case atStart => exact ⟨0, Nat.zero_le _, rfl, A0, m0, c0, l0, by omega, (show _ = _ by rw [HM0.out]; exact (List.append_nil _).symm), HAC0.out, HBC0.out⟩
          case round =>
            obtain ⟨k, hk, rfl, A1, m, c1, l, hm, hmap, hac, hb⟩ := hrel
            obtain ⟨hbw, hx1, hx2⟩ := HKW.out _ hb.out
            have x1 := hx1.cell 0
            have x2 := hx2.cell 0
            simp only [List.getElem?_toArray, List.getElem?_cons_zero, List.getElem?_cons_succ] at x1 x2
            have hwl : w.heap.size < wr.heap.size := hx1.lt
            have hwl2 : w.heap.size + 1 < wr.heap.size := hx2.lt
            have hwb : B ≤ wr.heap.size := Nat.le_trans HB.out hbw.size
            by_cases hlt : k < n
            · obtain ⟨b, off, rfl, hbB, hl, d0, d1, d2, hS⟩ := (HO1.out.below (hbw.mono HB.out)).at_ hlt
              have hbl : b < wr.heap.size := Nat.lt_of_lt_of_le hbB hwb
              have HF := Lib.hid (filt_succA (fun x => decide (x.path ∉ pathsE p.files)) (es.map EV.ent) (k := k) (by rw [List.length_map]; exact hl))
              rw [List.getElem_map] at HF
              have HSE9 := True.intro
              generalize es[k] = x at *
              obtain ⟨W1, hW1⟩ : ∃ W1, W1 = wr.alloc (.cells (evArr x) 35) := ⟨_, rfl⟩
              have hb1 : Below wr.heap.size wr W1 := by rw [hW1]; exact bel_new _ _
              have hz1 : W1.heap.size = wr.heap.size + 1 := by rw [hW1]; simp
              have hG1 : Blk W1 wr.heap.size 35 (evArr x) := by rw [hW1]; exact Blk.new _ _ _
              have hc := contP_any (w := W1) (HS1.out.below ((hbw.mono HB.out).trans (hb1.mono hwb))) (Nat.le_trans hwb hb1.size) wr.heap.size (fun y => decide (x.path = y.path)) (fun y _ W hW => predP_any y x.path wr.heap.size W ((hG1.below hW hG1.lt).cell 0))
              have hany : fs.any (fun y => decide (x.path = y.path)) = decide (x.path ∈ pathsE p.files) := by
                rw [HP.out, Bool.eq_iff_iff, decide_eq_true_iff, List.any_eq_true]
                constructor
                · rintro ⟨y, hy, e⟩
                  exact List.mem_map.2 ⟨y.ent, List.mem_map.2 ⟨y, hy, rfl⟩, (of_decide_eq_true e).symm⟩
                · intro hm9
                  obtain ⟨z, hz, e⟩ := List.mem_map.1 hm9
                  obtain ⟨y, hy, rfl⟩ := List.mem_map.1 hz
                  exact ⟨y, hy, decide_eq_true e.symm⟩
              rw [hany] at hc
              have HG1 := Lib.hid hG1
              have HB1 := Lib.hid hb1
              have HW1 := Lib.hid hW1
              have HZ1 := Lib.hid hz1
              have HBB := Lib.hid hb.out
              have HAC := Lib.hid hac.out
              have HMP := Lib.hid hmap.out
              have HBW := Lib.hid hbw
              cases hin : decide (x.path ∈ pathsE p.files) with
              | true =>
                have HX := Lib.hid (show l.map AV.act = ((vo.map SV.srv).drop k0).reverse.map stopA ++ (((es.map EV.ent).take (k + 1)).filter (fun x => decide (x.path ∉ pathsE p.files))).map removeA by
                  rw [HMP.out, HF.out, if_neg (by have h9 : x.ent.path ∈ pathsE p.files := of_decide_eq_true hin; simpa using h9), List.append_nil])
                rw [hin, hW1] at hc
                unfold evArr at hc
                clear hin hG1 hW1 hmap hac hb hbw hx1 hx2 hany hb1 hS
                go_wp2_with (go_at_call 60; refine hc.mono ?_; clear hc; rintro e4 w4 ⟨rfl, hb4⟩; have HB4 := Lib.hid (show Below wr.heap.size wr w4 from HB1.out.trans ((show Below W1.heap.size W1 w4 by rw [HW1.out]; exact hb4).mono HB1.out.size)); clear hb4)
                exact ⟨⟨k + 1, by omega, by go_num, A1, m, c1, l, by omega, HX.out, HAC.out.below HB4.out, HBB.out.trans (HB4.out.mono (Nat.le_of_lt HAC.out.var.lt))⟩, by simp [intOf]; omega⟩
              | false =>
                have HX := Lib.hid (show l.map AV.act ++ [removeA x.ent] = ((vo.map SV.srv).drop k0).reverse.map stopA ++ (((es.map EV.ent).take (k + 1)).filter (fun x => decide (x.path ∉ pathsE p.files))).map removeA by
                  rw [HMP.out, HF.out, if_pos (by have h9 : ¬ x.ent.path ∈ pathsE p.files := of_decide_eq_false hin; simpa using h9), List.map_append, List.append_assoc]; rfl)
                rw [hin, hW1] at hc
                unfold evArr at hc
                have HAD := Lib.hid (fun (W : World) (hW : Below wr.heap.size wr W) => add21_any (HAC.out.below hW) (ActNew.plain W g A1 m c1 2 x.path) (by omega))
                clear hin hG1 hW1 hmap hac hb hbw hx1 hx2 hany hb1 hS
                go_wp2_with (first
                  | (go_at_call 60; refine hc.mono ?_; clear hc; rintro e4 w4 ⟨rfl, hb4⟩; have hb4' := (show Below W1.heap.size W1 w4 by rw [HW1.out]; exact hb4); have y0 := (HG1.out.below hb4' HG1.out.lt).cell 0; unfold evArr at y0; simp only [List.getElem?_toArray, List.getElem?_cons_zero] at y0; have HB4 := Lib.hid (show Below wr.heap.size wr w4 from HB1.out.trans (hb4'.mono HB1.out.size)); have hadd := HAD.out w4 HB4.out; unfold avArr ev0 sv0 at hadd; clear hb4 hb4')
                  | (go_at_call 59; refine hadd.mono ?_; clear hadd; rintro e9 w9 ⟨A9, c9, rfl, h9, hb9⟩; have H9 := Lib.hid h9; have HB9 := Lib.hid hb9; clear h9 hb9))
                have hbf := HBB.out.trans ((HB4.out.mono (Nat.le_of_lt HAC.out.var.lt)).trans HB9.out)
                exact ⟨⟨k + 1, by omega, by go_num, A9, m + 1, c9, _, by omega, (show _ = _ by rw [List.map_append]; exact HX.out), H9.out, hbf⟩, by simp [intOf]; omega⟩
            · obtain rfl : k = n := by omega
              have HX := Lib.hid (show l.map AV.act = ((vo.map SV.srv).drop k0).reverse.map stopA ++ ((es.map EV.ent).filter fun x => decide (x.path ∉ pathsE p.files)).map removeA by
                rw [hmap.out, List.take_of_length_le (by rw [List.length_map, HO1.out.len]; exact Nat.le_refl _)])
              have HH := Lib.hid (And.intro hac.out hb.out)
              clear hmap hac hb hbw hx1 hx2 x1 x2
              go_wp2_with (fail)
              go_meet
              case rel => exact ⟨A1, m, c1, l, hm, HX.out, HH.out⟩
        case rest =>
          obtain ⟨A0, m0, c0, l0, hm0, hmap0, hac0, hb0⟩ := hcut
          have HM0 := Lib.hid hmap0
          have HAC0 := Lib.hid hac0
          have HBC0 := Lib.hid hb0
          clear hmap0 hac0 hb0
          have x1 := (HKW.out _ HBC0.out).2.1.cell 1
          simp only [List.getElem?_toArray, List.getElem?_cons_zero, List.getElem?_cons_succ] at x1
          go_upto_block 6 with (fail)
          go_cut [12] (fun s12 wx => ∃ (A : Option Addr) (m c : Nat) (l : List AV), m ≤ n3 + n + n2 ∧ l.map AV.act = ((vo.map SV.srv).drop k0).reverse.map stopA ++ ((es.map EV.ent).filter fun x => decide (x.path ∉ pathsE p.files)).map removeA ++ (uo.filter fun n => decide (n ∉ us)).map dropA ∧ ActsW wx g A m c l ∧ Below g w2 wx)
          case first =>
            go_wp2_with (fail)
            go_loopw [89] (fun i wr => ∃ k : Nat, k ≤ n2 ∧ i = .int .i64 (k : Int) ∧ ∃ (A : Option Addr) (m c : Nat) (l : List AV), m ≤ n3 + n + k ∧ Aside (l.map AV.act = ((vo.map SV.srv).drop k0).reverse.map stopA ++ ((es.map EV.ent).filter fun x => decide (x.path ∉ pathsE p.files)).map removeA ++ (((uo.take k).filter (fun n => decide (n ∉ us))).map dropA)) ∧ Aside (ActsW wr g A m c l) ∧ Aside (Below g w2 wr)) (fun i _ => n2 - (intOf i).toNat)
            case atStart => exact ⟨0, Nat.zero_le _, rfl, A0, m0, c0, l0, by omega, (show _ = _ by rw [HM0.out]; exact (List.append_nil _).symm), HAC0.out, HBC0.out⟩
            case round =>
              obtain ⟨k, hk, rfl, A1, m, c1, l, hm, hmap, hac, hb⟩ := hrel
              obtain ⟨hbw, hx1, hx2⟩ := HKW.out _ hb.out
              have x2 := hx2.cell 1
              simp only [List.getElem?_toArray, List.getElem?_cons_zero, List.getElem?_cons_succ] at x2
              by_cases hlt : k < n2
              · obtain ⟨b, off, rfl, hbB, hl, d0⟩ := txtAt21 (HO2.out.below (hbw.mono HB.out)) hlt
                have HF := Lib.hid (filt_succA (fun n => decide (n ∉ us)) uo (k := k) hl)
                generalize uo[k] = t at *
                have hc := contT_any (HS2.out.below (hbw.mono HB.out)) t
                have HBB := Lib.hid hb.out
                have HAC := Lib.hid hac.out
                have HMP := Lib.hid hmap.out
                cases hin : decide (t ∈ us) with
                | true =>
                  have HX := Lib.hid (show l.map AV.act = ((vo.map SV.srv).drop k0).reverse.map stopA ++ ((es.map EV.ent).filter fun x => decide (x.path ∉ pathsE p.files)).map removeA ++ ((uo.take (k + 1)).filter (fun n => decide (n ∉ us))).map dropA by
                    rw [HMP.out, HF.out, if_neg (by have := of_decide_eq_true hin; simpa using this), List.append_nil])
                  rw [hin] at hc
                  clear hin hmap hac hb hbw hx1 hx2
                  go_wp2_with (go_at_call 62; refine hc.mono ?_; clear hc; rintro e4 w4 ⟨rfl, hb4⟩; have HB4 := Lib.hid hb4; clear hb4)
                  exact ⟨⟨k + 1, by omega, by go_num, A1, m, c1, l, by omega, HX.out, HAC.out.below HB4.out, HBB.out.trans (HB4.out.mono (Nat.le_of_lt HAC.out.var.lt))⟩, by simp [intOf]; omega⟩
                | false =>
                  have HX := Lib.hid (show l.map AV.act ++ [dropA t] = ((vo.map SV.srv).drop k0).reverse.map stopA ++ ((es.map EV.ent).filter fun x => decide (x.path ∉ pathsE p.files)).map removeA ++ ((uo.take (k + 1)).filter (fun n => decide (n ∉ us))).map dropA by
                    rw [HMP.out, HF.out, if_pos (by have := of_decide_eq_false hin; simpa using this), List.map_append, List.append_assoc]; rfl)
                  rw [hin] at hc
                  have HAD := Lib.hid (fun (W : World) (hW : Below wr.heap.size wr W) => add21_any (HAC.out.below hW) (ActNew.plain W g A1 m c1 3 t) (by omega))
                  clear hin hmap hac hb hbw hx1 hx2
                  go_wp2_with (first
                    | (go_at_call 62; refine hc.mono ?_; clear hc; rintro e4 w4 ⟨rfl, hb4⟩; have HB4 := Lib.hid hb4; have hadd := HAD.out w4 HB4.out; unfold avArr ev0 sv0 at hadd; clear hb4)
                    | (go_at_call 59; refine hadd.mono ?_; clear hadd; rintro e9 w9 ⟨A9, c9, rfl, h9, hb9⟩; have H9 := Lib.hid h9; have HB9 := Lib.hid hb9; clear h9 hb9))
                  have hbf := HBB.out.trans ((HB4.out.mono (Nat.le_of_lt HAC.out.var.lt)).trans HB9.out)
                  exact ⟨⟨k + 1, by omega, by go_num, A9, m + 1, c9, _, by omega, (show _ = _ by rw [List.map_append]; exact HX.out), H9.out, hbf⟩, by simp [intOf]; omega⟩
              · obtain rfl : k = n2 := by omega
                have HX := Lib.hid (show l.map AV.act = ((vo.map SV.srv).drop k0).reverse.map stopA ++ ((es.map EV.ent).filter fun x => decide (x.path ∉ pathsE p.files)).map removeA ++ (uo.filter fun n => decide (n ∉ us)).map dropA by
                  rw [hmap.out, List.take_of_length_le (by have := HO2.out.len; simp at this; omega)])
                have HH := Lib.hid (And.intro hac.out hb.out)
                clear hmap hac hb hbw hx1 hx2 x2
                go_wp2_with (fail)
                go_meet
                case rel => exact ⟨A1, m, c1, l, hm, HX.out, HH.out⟩
          case rest =>
            obtain ⟨A0, m0, c0, l0, hm0, hmap0, hac0, hb0⟩ := hcut
            have HM0 := Lib.hid hmap0
            have HAC0 := Lib.hid hac0
            have HBC0 := Lib.hid hb0
            clear hmap0 hac0 hb0
            have x1 := (HKW.out _ HBC0.out).2.2.cell 0
            simp only [List.getElem?_toArray, List.getElem?_cons_zero, List.getElem?_cons_succ] at x1
            go_upto_block 8 with (fail)
            go_cut [14] (fun s14 wx => ∃ (A : Option Addr) (m c : Nat) (l : List AV), m ≤ n3 + n + n2 + n' ∧ l.map AV.act = ((vo.map SV.srv).drop k0).reverse.map stopA ++ ((es.map EV.ent).filter fun x => decide (x.path ∉ pathsE p.files)).map removeA ++ (uo.filter fun n => decide (n ∉ us)).map dropA ++ ((fs.map EV.ent).filter fun x => decide (x ∉ q.files)).map fileA ∧ ActsW wx g A m c l ∧ Below g w2 wx)
            case first =>
              go_wp2_with (fail)
              go_loopw [106] (fun i wr => ∃ k : Nat, k ≤ n' ∧ i = .int .i64 (k : Int) ∧ ∃ (A : Option Addr) (m c : Nat) (l : List AV), m ≤ n3 + n + n2 + k ∧ Aside (l.map AV.act = ((vo.map SV.srv).drop k0).reverse.map stopA ++ ((es.map EV.ent).filter fun x => decide (x.path ∉ pathsE p.files)).map removeA ++ (uo.filter fun n => decide (n ∉ us)).map dropA ++ ((((fs.map EV.ent).take k).filter (fun x => decide (x ∉ q.files))).map fileA)) ∧ Aside (ActsW wr g A m c l) ∧ Aside (Below g w2 wr)) (fun i _ => n' - (intOf i).toNat)
              case atStart => exact ⟨0, Nat.zero_le _, rfl, A0, m0, c0, l0, by omega, (show _ = _ by rw [HM0.out]; exact (List.append_nil _).symm), HAC0.out, HBC0.out⟩
              case round =>
                obtain ⟨k, hk, rfl, A1, m, c1, l, hm, hmap, hac, hb⟩ := hrel
                obtain ⟨hbw, hx1, hx2⟩ := HKW.out _ hb.out
                have x1 := hx2.cell 0
                have x2 := hx1.cell 0
                simp only [List.getElem?_toArray, List.getElem?_cons_zero, List.getElem?_cons_succ] at x1 x2
                have hwl : w.heap.size < wr.heap.size := hx1.lt
                have hwl2 : w.heap.size + 1 < wr.heap.size := hx2.lt
                have hwb : B ≤ wr.heap.size := Nat.le_trans HB.out hbw.size
                by_cases hlt : k < n'
                · obtain ⟨b, off, rfl, hbB, hl, d0, d1, d2, hS⟩ := (HS1.out.below (hbw.mono HB.out)).at_ hlt
                  have hbl : b < wr.heap.size := Nat.lt_of_lt_of_le hbB hwb
                  have HF := Lib.hid (filt_succA (fun x => decide (x ∉ q.files)) (fs.map EV.ent) (k := k) (by rw [List.length_map]; exact hl))
                  rw [List.getElem_map] at HF
                  have HSE9 := HSE.out _ (List.getElem_mem hl)
                  generalize fs[k] = x at *
                  obtain ⟨W1, hW1⟩ : ∃ W1, W1 = wr.alloc (.cells (evArr x) 35) := ⟨_, rfl⟩
                  have hb1 : Below wr.heap.size wr W1 := by rw [hW1]; exact bel_new _ _
                  have hz1 : W1.heap.size = wr.heap.size + 1 := by rw [hW1]; simp
                  have hG1 : Blk W1 wr.heap.size 35 (evArr x) := by rw [hW1]; exact Blk.new _ _ _
                  have hS1 := hS.below (hb1.mono hwb)
                  have hc := contQ_any (w := W1) (HO1.out.below ((hbw.mono HB.out).trans (hb1.mono hwb))) (Nat.le_trans hwb hb1.size) wr.heap.size (fun y => decide (x.ent = y.ent)) (fun y hy W hW => predQ_any x y wr.heap.size (hS1.below (hW.mono (Nat.le_trans hwb hb1.size))) (((HO1.out.below ((hbw.mono HB.out).trans (hb1.mono hwb))).data y hy).below (hW.mono (Nat.le_trans hwb hb1.size))) (Nat.le_trans (Nat.le_trans hwb hb1.size) hW.size) (Nat.le_trans (Nat.le_trans hwb hb1.size) hW.size) (hG1.below hW hG1.lt))
                  have hany : es.any (fun y => decide (x.ent = y.ent)) = decide (x.ent ∈ q.files) := by
                    rw [HQ.out, Bool.eq_iff_iff, decide_eq_true_iff, List.any_eq_true]
                    constructor
                    · rintro ⟨y, hy, e⟩
                      exact List.mem_map.2 ⟨y, hy, (of_decide_eq_true e).symm⟩
                    · intro hm9
                      obtain ⟨y, hy, e⟩ := List.mem_map.1 hm9
                      exact ⟨y, hy, decide_eq_true e.symm⟩
                  rw [hany] at hc
                  have HG1 := Lib.hid hG1
                  have HB1 := Lib.hid hb1
                  have HW1 := Lib.hid hW1
                  have HZ1 := Lib.hid hz1
                  have HBB := Lib.hid hb.out
                  have HAC := Lib.hid hac.out
                  have HMP := Lib.hid hmap.out
                  have HBW := Lib.hid hbw
                  cases hin : decide (x.ent ∈ q.files) with
                  | true =>
                    have HX := Lib.hid (show l.map AV.act = ((vo.map SV.srv).drop k0).reverse.map stopA ++ ((es.map EV.ent).filter fun x => decide (x.path ∉ pathsE p.files)).map removeA ++ (uo.filter fun n => decide (n ∉ us)).map dropA ++ (((fs.map EV.ent).take (k + 1)).filter (fun x => decide (x ∉ q.files))).map fileA by
                      rw [HMP.out, HF.out, if_neg (by have h9 : x.ent ∈ q.files := of_decide_eq_true hin; simpa using h9), List.append_nil])
                    rw [hin, hW1] at hc
                    unfold evArr at hc
                    clear hin hG1 hW1 hmap hac hb hbw hx1 hx2 hany hb1 hS hS1
                    go_wp2_with (go_at_call 60; refine hc.mono ?_; clear hc; rintro e4 w4 ⟨rfl, hb4⟩; have HB4 := Lib.hid (show Below wr.heap.size wr w4 from HB1.out.trans ((show Below W1.heap.size W1 w4 by rw [HW1.out]; exact hb4).mono HB1.out.size)); clear hb4)
                    exact ⟨⟨k + 1, by omega, by go_num, A1, m, c1, l, by omega, HX.out, HAC.out.below HB4.out, HBB.out.trans (HB4.out.mono (Nat.le_of_lt HAC.out.var.lt))⟩, by simp [intOf]; omega⟩
                  | false =>
                    have HX := Lib.hid (show l.map AV.act ++ [fileA x.ent] = ((vo.map SV.srv).drop k0).reverse.map stopA ++ ((es.map EV.ent).filter fun x => decide (x.path ∉ pathsE p.files)).map removeA ++ (uo.filter fun n => decide (n ∉ us)).map dropA ++ (((fs.map EV.ent).take (k + 1)).filter (fun x => decide (x ∉ q.files))).map fileA by
                      rw [HMP.out, HF.out, if_pos (by have h9 : ¬ x.ent ∈ q.files := of_decide_eq_false hin; simpa using h9), List.map_append, List.append_assoc]; rfl)
                    rw [hin, hW1] at hc
                    unfold evArr at hc
                    have HFC := Lib.hid (fun (W : World) (hW : Below W1.heap.size W1 W) => show ∃ g3 c3 w3, CopiedB W x.A x.n x.c x.data g3 c3 w3 from bytes_copy (hS1.below (hW.mono (Nat.le_trans hwb hb1.size))) (Nat.le_trans (Nat.le_trans hwb hb1.size) hW.size) (by have := hS.len; simp at this; omega))
                    clear hin hG1 hW1 hmap hac hb hbw hx1 hx2 hany hb1 hS hS1
                    go_wp2_with (first
                      | (go_at_call 60; refine hc.mono ?_; clear hc; rintro e4 w4 ⟨rfl, hb4⟩; have hb4' := (show Below W1.heap.size W1 w4 by rw [HW1.out]; exact hb4); obtain ⟨g3, c3, w3, S⟩ := HFC.out w4 hb4'; obtain ⟨r3, FA⟩ := file_act HAC.out HB1.out hb4' HZ1.out HG1.out S; obtain ⟨y2, ylt, yf, z0, z1, z2⟩ := FA.cells; have HR3 := Lib.hid r3; have hadd := add21_any FA.acts FA.new (by omega); have HFA := Lib.hid FA; unfold avArr sv0 at hadd; clear hb4 hb4' S r3 FA)
                      | (at_builtin; refine wpList_append_run rfl _ _ _ rfl rfl rfl HR3.out ?_; clear HR3)
                      | (go_at_call 59; refine hadd.mono ?_; clear hadd; rintro e9 w9 ⟨A9, c9, rfl, h9, hb9⟩; have H9 := Lib.hid h9; have HB9 := Lib.hid hb9; clear h9 hb9))
                    have hbf := HBB.out.trans ((HFA.out.bel.mono (Nat.le_of_lt HAC.out.var.lt)).trans HB9.out)
                    exact ⟨⟨k + 1, by omega, by go_num, A9, m + 1, c9, _, by omega, (show _ = _ by rw [List.map_append]; exact HX.out), H9.out, hbf⟩, by simp [intOf]; omega⟩
                · obtain rfl : k = n' := by omega
                  have HX := Lib.hid (show l.map AV.act = ((vo.map SV.srv).drop k0).reverse.map stopA ++ ((es.map EV.ent).filter fun x => decide (x.path ∉ pathsE p.files)).map removeA ++ (uo.filter fun n => decide (n ∉ us)).map dropA ++ ((fs.map EV.ent).filter fun x => decide (x ∉ q.files)).map fileA by
                    rw [hmap.out, List.take_of_length_le (by rw [List.length_map, HS1.out.len]; exact Nat.le_refl _)])
                  have HH := Lib.hid (And.intro hac.out hb.out)
                  clear hmap hac hb hbw hx1 hx2 x1 x2
                  go_wp2_with (fail)
                  go_meet
                  case rel => exact ⟨A1, m, c1, l, hm, HX.out, HH.out⟩
            case rest =>
              obtain ⟨A0, m0, c0, l0, hm0, hmap0, hac0, hb0⟩ := hcut
              have HM0 := Lib.hid hmap0
              have HAC0 := Lib.hid hac0
              have HBC0 := Lib.hid hb0
              clear hmap0 hac0 hb0
              have x1 := (HKW.out _ HBC0.out).2.2.cell 1
              simp only [List.getElem?_toArray, List.getElem?_cons_zero, List.getElem?_cons_succ] at x1
              go_upto_block 10 with (fail)
              go_cut [16] (fun s16 wx => ∃ (A : Option Addr) (m c : Nat) (l : List AV), m ≤ n3 + n + n2 + n' + n2' ∧ l.map AV.act = ((vo.map SV.srv).drop k0).reverse.map stopA ++ ((es.map EV.ent).filter fun x => decide (x.path ∉ pathsE p.files)).map removeA ++ (uo.filter fun n => decide (n ∉ us)).map dropA ++ ((fs.map EV.ent).filter fun x => decide (x ∉ q.files)).map fileA ++ (us.filter fun n => decide (n ∉ uo)).map userA ∧ ActsW wx g A m c l ∧ Below g w2 wx)
              case first =>
                go_wp2_with (fail)
                go_loopw [130] (fun i wr => ∃ k : Nat, k ≤ n2' ∧ i = .int .i64 (k : Int) ∧ ∃ (A : Option Addr) (m c : Nat) (l : List AV), m ≤ n3 + n + n2 + n' + k ∧ Aside (l.map AV.act = ((vo.map SV.srv).drop k0).reverse.map stopA ++ ((es.map EV.ent).filter fun x => decide (x.path ∉ pathsE p.files)).map removeA ++ (uo.filter fun n => decide (n ∉ us)).map dropA ++ ((fs.map EV.ent).filter fun x => decide (x ∉ q.files)).map fileA ++ (((us.take k).filter (fun n => decide (n ∉ uo))).map userA)) ∧ Aside (ActsW wr g A m c l) ∧ Aside (Below g w2 wr)) (fun i _ => n2' - (intOf i).toNat)
                case atStart => exact ⟨0, Nat.zero_le _, rfl, A0, m0, c0, l0, by omega, (show _ = _ by rw [HM0.out]; exact (List.append_nil _).symm), HAC0.out, HBC0.out⟩
                case round =>
                  obtain ⟨k, hk, rfl, A1, m, c1, l, hm, hmap, hac, hb⟩ := hrel
                  obtain ⟨hbw, hx1, hx2⟩ := HKW.out _ hb.out
                  have x2 := hx1.cell 1
                  simp only [List.getElem?_toArray, List.getElem?_cons_zero, List.getElem?_cons_succ] at x2
                  by_cases hlt : k < n2'
                  · obtain ⟨b, off, rfl, hbB, hl, d0⟩ := txtAt21 (HS2.out.below (hbw.mono HB.out)) hlt
                    have HF := Lib.hid (filt_succA (fun n => decide (n ∉ uo)) us (k := k) hl)
                    generalize us[k] = t at *
                    have hc := contT_any (HO2.out.below (hbw.mono HB.out)) t
                    have HBB := Lib.hid hb.out
                    have HAC := Lib.hid hac.out
                    have HMP := Lib.hid hmap.out
                    cases hin : decide (t ∈ uo) with
                    | true =>
                      have HX := Lib.hid (show l.map AV.act = ((vo.map SV.srv).drop k0).reverse.map stopA ++ ((es.map EV.ent).filter fun x => decide (x.path ∉ pathsE p.files)).map removeA ++ (uo.filter fun n => decide (n ∉ us)).map dropA ++ ((fs.map EV.ent).filter fun x => decide (x ∉ q.files)).map fileA ++ ((us.take (k + 1)).filter (fun n => decide (n ∉ uo))).map userA by
                        rw [HMP.out, HF.out, if_neg (by have := of_decide_eq_true hin; simpa using this), List.append_nil])
                      rw [hin] at hc
                      clear hin hmap hac hb hbw hx1 hx2
                      go_wp2_with (go_at_call 62; refine hc.mono ?_; clear hc; rintro e4 w4 ⟨rfl, hb4⟩; have HB4 := Lib.hid hb4; clear hb4)
                      exact ⟨⟨k + 1, by omega, by go_num, A1, m, c1, l, by omega, HX.out, HAC.out.below HB4.out, HBB.out.trans (HB4.out.mono (Nat.le_of_lt HAC.out.var.lt))⟩, by simp [intOf]; omega⟩
                    | false =>
                      have HX := Lib.hid (show l.map AV.act ++ [userA t] = ((vo.map SV.srv).drop k0).reverse.map stopA ++ ((es.map EV.ent).filter fun x => decide (x.path ∉ pathsE p.files)).map removeA ++ (uo.filter fun n => decide (n ∉ us)).map dropA ++ ((fs.map EV.ent).filter fun x => decide (x ∉ q.files)).map fileA ++ ((us.take (k + 1)).filter (fun n => decide (n ∉ uo))).map userA by
                        rw [HMP.out, HF.out, if_pos (by have := of_decide_eq_false hin; simpa using this), List.map_append, List.append_assoc]; rfl)
                      rw [hin] at hc
                      have HAD := Lib.hid (fun (W : World) (hW : Below wr.heap.size wr W) => add21_any (HAC.out.below hW) (ActNew.plain W g A1 m c1 5 t) (by omega))
                      clear hin hmap hac hb hbw hx1 hx2
                      go_wp2_with (first
                        | (go_at_call 62; refine hc.mono ?_; clear hc; rintro e4 w4 ⟨rfl, hb4⟩; have HB4 := Lib.hid hb4; have hadd := HAD.out w4 HB4.out; unfold avArr ev0 sv0 at hadd; clear hb4)
                        | (go_at_call 59; refine hadd.mono ?_; clear hadd; rintro e9 w9 ⟨A9, c9, rfl, h9, hb9⟩; have H9 := Lib.hid h9; have HB9 := Lib.hid hb9; clear h9 hb9))
                      have hbf := HBB.out.trans ((HB4.out.mono (Nat.le_of_lt HAC.out.var.lt)).trans HB9.out)
                      exact ⟨⟨k + 1, by omega, by go_num, A9, m + 1, c9, _, by omega, (show _ = _ by rw [List.map_append]; exact HX.out), H9.out, hbf⟩, by simp [intOf]; omega⟩
                  · obtain rfl : k = n2' := by omega
                    have HX := Lib.hid (show l.map AV.act = ((vo.map SV.srv).drop k0).reverse.map stopA ++ ((es.map EV.ent).filter fun x => decide (x.path ∉ pathsE p.files)).map removeA ++ (uo.filter fun n => decide (n ∉ us)).map dropA ++ ((fs.map EV.ent).filter fun x => decide (x ∉ q.files)).map fileA ++ (us.filter fun n => decide (n ∉ uo)).map userA by
                      rw [hmap.out, List.take_of_length_le (by have := HS2.out.len; simp at this; omega)])
                    have HH := Lib.hid (And.intro hac.out hb.out)
                    clear hmap hac hb hbw hx1 hx2 x2
                    go_wp2_with (fail)
                    go_meet
                    case rel => exact ⟨A1, m, c1, l, hm, HX.out, HH.out⟩
              case rest =>
                obtain ⟨A0, m0, c0, l0, hm0, hmap0, hac0, hb0⟩ := hcut
                have HM0 := Lib.hid hmap0
                have HAC0 := Lib.hid hac0
                have HBC0 := Lib.hid hb0
                clear hmap0 hac0 hb0
                have x1 := (HKW.out _ HBC0.out).2.2.cell 2
                simp only [List.getElem?_toArray, List.getElem?_cons_zero, List.getElem?_cons_succ] at x1
                obtain ⟨A7, c7, hta, htS⟩ := tail_slc (HS3.out.slc) hkn'
                have hch := fun (W : World) => cut_high rowT_unitA (A := A3') (n := n3') (c := c3') (k := k0) (z := (k0 : Int)) rfl hkn' W
                rw [hta] at hch
                have HT7 := Lib.hid (show UnitsAt w B A7 (n3' - k0) c7 (vs.drop k0) from ⟨by
                  rw [← (flatMap_take svCells 4 vs k0 (fun x _ => svCells_length x)).2]
                  exact htS, by rw [List.length_drop, HS3.out.len], fun u hu => HS3.out.req u (List.mem_of_mem_drop hu), fun u hu => HS3.out.aft u (List.mem_of_mem_drop hu)⟩)
                have HLD := Lib.hid (show (vs.drop k0).length = n3' - k0 by rw [List.length_drop, HS3.out.len])
                have HMD := Lib.hid (show (vs.drop k0).map SV.srv = (vs.map SV.srv).drop k0 from List.map_drop)
                have HSU7 := Lib.hid (show ∀ u ∈ vs.drop k0, SmallU u from fun u hu => HSU.out u (List.mem_of_mem_drop hu))
                obtain ⟨n7, hn7⟩ : ∃ n7, n7 = n3' - k0 := ⟨_, rfl⟩
                rw [← hn7] at hch HT7 HLD
                have hn7' : n7 ≤ n3' := by omega
                obtain ⟨vd, hvd⟩ : ∃ vd, vd = vs.drop k0 := ⟨_, rfl⟩
                rw [← hvd] at HT7 HLD HMD HSU7
                have hn62 : n7 ≤ 9223372036854775807 := by omega
                clear hta htS hn7 hvd
                go_upto_block 12 with (fail)
                go_cut [18] (fun s18 wx => ∃ (A : Option Addr) (m c : Nat) (l : List AV), l.map AV.act = ((vo.map SV.srv).drop k0).reverse.map stopA ++ ((es.map EV.ent).filter fun x => decide (x.path ∉ pathsE p.files)).map removeA ++ (uo.filter fun n => decide (n ∉ us)).map dropA ++ ((fs.map EV.ent).filter fun x => decide (x ∉ q.files)).map fileA ++ (us.filter fun n => decide (n ∉ uo)).map userA ++ ((vs.map SV.srv).drop k0).map startA ∧ ActsW wx g A m c l ∧ Below g w2 wx)
                case first =>
                  go_wp2_with (fail)
                  go_loopw [149] (fun i wr => ∃ k : Nat, k ≤ n7 ∧ i = .int .i64 (k : Int) ∧ ∃ (A : Option Addr) (m c : Nat) (l : List AV), m ≤ n3 + n + n2 + n' + n2' + k ∧ Aside (l.map AV.act = ((vo.map SV.srv).drop k0).reverse.map stopA ++ ((es.map EV.ent).filter fun x => decide (x.path ∉ pathsE p.files)).map removeA ++ (uo.filter fun n => decide (n ∉ us)).map dropA ++ ((fs.map EV.ent).filter fun x => decide (x ∉ q.files)).map fileA ++ (us.filter fun n => decide (n ∉ uo)).map userA ++ ((((vs.map SV.srv).drop k0).take k).map startA)) ∧ Aside (ActsW wr g A m c l) ∧ Aside (Below g w2 wr)) (fun i _ => n7 - (intOf i).toNat)
                  case atStart => exact ⟨0, Nat.zero_le _, rfl, A0, m0, c0, l0, by omega, (show _ = _ by rw [HM0.out]; exact (List.append_nil _).symm), HAC0.out, HBC0.out⟩
                  case round =>
                    clear hch
                    obtain ⟨k, hk, rfl, A1, m, c1, l, hm, hmap, hac, hb⟩ := hrel
                    obtain ⟨hbw, hx1, hx2⟩ := HKW.out _ hb.out
                    have hwb : B ≤ wr.heap.size := Nat.le_trans HB.out hbw.size
                    by_cases hlt : k < n7
                    · obtain ⟨b, off, rfl, hbB, hl, d0, d1, d2, d3, hS1, hS2⟩ := (HT7.out.below (hbw.mono HB.out)).at_ hlt
                      have hbl : b < wr.heap.size := Nat.lt_of_lt_of_le hbB hwb
                      have hsu := HSU7.out _ (List.getElem_mem hl)
                      have HF := Lib.hid (show ((vs.map SV.srv).drop k0).take (k + 1) = ((vs.map SV.srv).drop k0).take k ++ [vd[k].srv] by
                        rw [← HMD.out, List.take_succ_eq_append_getElem (by rw [List.length_map]; exact hl), List.getElem_map])
                      generalize vd[k] = u at *
                      obtain ⟨W1, hW1⟩ : ∃ W1, W1 = wr.alloc (.cells (svArr u) 59) := ⟨_, rfl⟩
                      have hb1 : Below wr.heap.size wr W1 := by rw [hW1]; exact bel_new _ _
                      have hz1 : W1.heap.size = wr.heap.size + 1 := by rw [hW1]; simp
                      have hG1 : Blk W1 wr.heap.size 59 (svArr u) := by rw [hW1]; exact Blk.new _ _ _
                      obtain ⟨g3, c3, w3, g5, c5, w5, UA⟩ := unit_act hac.out hb1 hz1 hG1 (hS1.below (hb1.mono hwb)) (hS2.below (hb1.mono hwb)) hwb ⟨by have := hsu.n; omega, by have := hsu.n2; omega⟩
                      have r3 := UA.r3
                      have r5 := UA.r5
                      rw [hz1, hW1] at r3
                      obtain ⟨ylt, yf, y2, y3⟩ := UA.cells
                      obtain ⟨zf, z0, z1, z2, z3⟩ := UA.cells5
                      have HR3 := Lib.hid r3
                      have HR5 := Lib.hid r5
                      have HUA := Lib.hid UA
                      have hst := started21_any (w := w5.setCell ⟨wr.heap.size, 3, none⟩ (.slice (some ⟨g5, 0, none⟩) u.n2 c5)) ⟨u.name, u.start, u.req, some ⟨g3, 0, none⟩, u.n, c3, u.aft, some ⟨g5, 0, none⟩, u.n2, c5⟩
                      have HBB := Lib.hid hb.out
                      have HAC := Lib.hid hac.out
                      have HX := Lib.hid (show l.map AV.act ++ [startA u.srv] = ((vo.map SV.srv).drop k0).reverse.map stopA ++ ((es.map EV.ent).filter fun x => decide (x.path ∉ pathsE p.files)).map removeA ++ (uo.filter fun n => decide (n ∉ us)).map dropA ++ ((fs.map EV.ent).filter fun x => decide (x ∉ q.files)).map fileA ++ (us.filter fun n => decide (n ∉ uo)).map userA ++ (((vs.map SV.srv).drop k0).take (k + 1)).map startA by
                        rw [hmap.out, HF.out, List.map_append, List.append_assoc]; rfl)
                      have hmk : m ≤ 1000000000 := by omega
                      unfold svArr at hst HR3
                      clear r3 r5 UA hmap hac hb hbw hx1 hx2 hG1 hb1 hW1 hz1 hS1 hS2 hsu
                      go_wp2_with (first
                        | (at_builtin; refine wpList_append_run rfl _ _ _ rfl rfl rfl HR3.out ?_; clear HR3)
                        | (at_builtin; refine wpList_append_run rfl _ _ _ rfl rfl rfl HR5.out ?_; clear HR5)
                        | (go_at_call 43; refine hst.mono ?_; clear hst; rintro e7 w7 ⟨rfl, hb7⟩; have hadd := add21_any (HAC.out.below (HUA.out.bel.trans (hb7.mono HUA.out.bel.size))) (HUA.out.new w7 hb7) hmk; have HB7 := Lib.hid (HUA.out.bel.trans (hb7.mono HUA.out.bel.size)); unfold avArr at hadd; unfold avArr; clear hb7)
                        | (go_at_call 59; refine hadd.mono ?_; clear hadd; rintro e9 w9 ⟨A9, c9, rfl, h9, hb9⟩; have H9 := Lib.hid h9; have HB9 := Lib.hid hb9; clear h9 hb9))
                      have hbf := HBB.out.trans ((HB7.out.mono (Nat.le_of_lt HAC.out.var.lt)).trans HB9.out)
                      exact ⟨⟨k + 1, by omega, by go_num, A9, m + 1, c9, _, by omega, (show _ = _ by rw [List.map_append]; exact HX.out), H9.out, hbf⟩, by simp [intOf]; omega⟩
                    · obtain rfl : k = n7 := by omega
                      have HX := Lib.hid (show l.map AV.act = ((vo.map SV.srv).drop k0).reverse.map stopA ++ ((es.map EV.ent).filter fun x => decide (x.path ∉ pathsE p.files)).map removeA ++ (uo.filter fun n => decide (n ∉ us)).map dropA ++ ((fs.map EV.ent).filter fun x => decide (x ∉ q.files)).map fileA ++ (us.filter fun n => decide (n ∉ uo)).map userA ++ ((vs.map SV.srv).drop k0).map startA by
                        rw [hmap.out, List.take_of_length_le (by rw [← HMD.out, List.length_map, HLD.out]; exact Nat.le_refl _)])
                      have HH := Lib.hid (And.intro hac.out hb.out)
                      clear hmap hac hb hbw hx1 hx2
                      go_wp2_with (fail)
                      go_meet
                      case rel => exact ⟨A1, m, c1, l, HX.out, HH.out⟩
                case rest =>
                  obtain ⟨A9, m, c9, l, hmap, hac, hb⟩ := hcut
                  have v0 := hac.var.cell 0
                  simp only [List.getElem?_toArray, List.getElem?_cons_zero] at v0
                  have HL := Lib.hid (show l.map AV.act = actsR q p by
                    rw [hmap, HX.out]
                    unfold actsS
                    rw [HP.out, HQ.out]
                    simp only
                    rw [← HK0.out]
                    simp only [List.append_assoc])
                  have HBW := Lib.hid (HKW.out _ hb).1
                  have HAC := Lib.hid hac
                  have HGW := Lib.hid (show w.heap.size ≤ g + 1 by have h1 := HAG.out; omega)
                  clear hmap hac hb
                  go_wp2_with (fail)
                  go_ret
                  refine ⟨A9, m, c9, l, rfl, HL.out, ⟨⟨own_slc_of HAC.out.own, HAC.out.len, HAC.out.acts⟩, fun x hx => ?_, fun a ha x hx => ?_, HBW.out⟩⟩
                  · have h9 := HAC.out.own.lt x.block (by rw [hx]; rfl)
                    have := HGW.out
                    omega
                  · obtain ⟨h8, h9, -⟩ := HAC.out.out a ha x hx
                    have := HGW.out
                    omega
end
end Go.Proofs.YtibndaianhlcaaaGreatDoor
