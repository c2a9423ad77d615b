/- The walk of BootTexts. -/
import Derived.Test.YtdhlklidenfbeaaGreatDoorBootY
import Derived.Deep.RegionHeld3
namespace Go.Proofs.YtdhlklidenfbeaaGreatDoor
open Go.RowKit Go.Shelf Go.ChangeShapes Go.WideShapes
open Go.ChangeMaps (open_string)
set_option linter.unusedVariables false
set_option linter.unusedSimpArgs false

/-- One byte of the copy is changed. -/
theorem flip_text {w : World} {g n cap : Nat} {cur : Array Value} {s : Txt} (h : MBlk w g 5 cur) (hc : cur.toList.take n = s.map bv) (hl : s.length = n) (hn : n ≤ cap) (hm : cap ≤ maxLen) (hcs : n ≤ cur.size) {j : Nat} (hj : j < n) (y : UInt8) :
    (∃ x : UInt8, w.cell? ⟨g, j, none⟩ = some (.int .u8 (x.toNat : Int))) ∧ w.frozen? ⟨g, j, none⟩ = false ∧ ∀ x : UInt8, Slc (w.setCell ⟨g, j, none⟩ (.int .u8 (x.toNat : Int))) (g + 1) 1 (some ⟨g, 0, none⟩) n cap ((s.set j x).map bv) := by
  refine ⟨?_, h.frozen (by omega), fun x => ?_⟩
  · have h1 : (cur.toList.take n)[j]? = some (bv (s[j]'(by omega))) := by rw [hc, List.getElem?_map, List.getElem?_eq_getElem (by omega)]; rfl
    rw [List.getElem?_take, if_pos hj, Array.getElem?_toList] at h1
    exact ⟨_, (h.cell j).trans h1⟩
  · have h1 := (h.set_ j (.int .u8 (x.toNat : Int))).slc (n := n) (c := cap) (by simpa using hcs) hn hm
    have e : (cur.setIfInBounds j (.int .u8 (x.toNat : Int))).toList.take n = (s.set j x).map bv := by
      rw [Array.toList_setIfInBounds, List.take_set, hc, List.map_set]
      rfl
    rwa [e] at h1
section
attribute [local go_sem ↓] load_menu_mark store_menu_mark
set_option maxRecDepth 100000 in
set_option maxHeartbeats 8000000 in
theorem bootTexts_any {w : World} {A : Option Addr} {n c : Nat} {m : Menu} (h : GensAt w w.heap.size A n c m.gens) (hpl : ∀ g ∈ m.gens, g.path.length ≤ 1000000000) {text : Txt} (hlen : text.length ≤ 10000000) (x : Int) (hx0 : -9223372036854775808 ≤ x) (hx1 : x ≤ 9223372036854775807) (y : UInt8)
    (hm : MaxOk w) (ha : AtoiOk w) (ht : TabOk w) :
    Calls Tryz.prog 3 #[menuV m A n c, .string ⟨text.toArray⟩, .int .i64 x, .int .u8 (y.toNat : Int)] w fun e w' => e = .returned (.bool true) ∧ Below w.heap.size w w' := by
  obtain ⟨W1, hW1⟩ : ∃ W1, W1 = w.alloc (.cells #[.int .i64 m.last, .int .i64 m.def_, .int .i64 m.next, .int .i64 m.trial, .slice A n c] 24) := ⟨_, rfl⟩
  have hb1 : Below w.heap.size w W1 := by rw [hW1]; exact (Below.refl _ w).alloc (Nat.le_refl _) _
  have hM1 : MenuBlk W1 w.heap.size m A n c := by rw [hW1]; exact Blk.new _ _ _
  have hsh := shown_any W1
  rw [hW1] at hsh
  have HB1 := Lib.hid hb1
  have HM1 := Lib.hid hM1
  have H := Lib.hid h
  have HP := Lib.hid hpl
  have HMX := Lib.hid hm
  have HAT := Lib.hid ha
  have HTB := Lib.hid ht
  have HLEN := Lib.hid hlen
  have HR := Lib.hid (fun (W : World) (hW : Below w.heap.size w W) => reads_any (w := W) hlen (hm.below hW) (ha.below hW) (ht.below hW))
  have HTX := Lib.hid (fun (W : World) (hW : Below w.heap.size w W) => btext_any (m := m) (h.below hW) hW.size hpl (fun hm' => itoa_menu hm' (ht.below hW)))
  have HTR := Lib.hid (fun (W : World) (hW : Below w.heap.size w W) => text22_any (m := m) (h.below hW) hW.size hpl)
  have HR1 := Lib.hid (fun (W : World) (hW : Below w.heap.size w W) => right_any (m := m) (h.below hW) hW.size hpl)
  have HR2 := Lib.hid (fun (W : World) (hW : Below w.heap.size w W) => refRight_any (m := m) (h.below hW) hW.size hpl)
  have HLD := Lib.hid (fun (W : World) (hW : Below W1.heap.size W1 W) => (hM1.below hW hM1.lt).load)
  have HMB := Lib.hid (show textM m ≠ [] → menuB m = true from fun e => by
    cases h1 : menuB m with
    | true => rfl
    | false => exact absurd (by unfold textM; rw [if_neg (by rw [h1]; decide)]) e)
  have HTL := Lib.hid (show (textM m).length ≤ 10000000 from by
    cases h1 : menuB m with
    | false => rw [show textM m = [] by unfold textM; rw [if_neg (by rw [h1]; decide)]]; simp
    | true =>
      have R := right_menu h1
      have e : ∀ l : List Gen, (∀ g ∈ l, 0 ≤ g.num ∧ g.num ≤ 999999 ∧ pathB g.path = true) → (l.flatMap genT).length ≤ l.length * 2000 := by
        intro l
        induction l with
        | nil => intro _; simp
        | cons g l ih =>
          intro hl
          have h2 := ih (fun x hx => hl x (List.mem_cons_of_mem _ hx))
          obtain ⟨g0, g1, g2⟩ := hl g List.mem_cons_self
          have h3 := ito_short g0 g1
          have h4 := pathB_len g2
          rw [List.flatMap_cons, List.length_append]
          simp only [genT, List.length_append, List.length_cons, List.length_nil]
          omega
      have h2 := e m.gens R.gens
      have h3 := R.few
      have s1 := ito_short R.last.1 R.last.2
      have s2 := ito_short R.def_.1 R.def_.2
      have s3 := ito_short R.next.1 R.next.2
      have s4 := ito_short R.trial.1 R.trial.2
      unfold textM gensT headT lineT lastW defaultW nextW trialW
      rw [if_pos h1, List.take_length]
      simp only [List.length_append, List.length_cons, List.length_nil]
      omega)
  clear hb1 hM1 h hpl hm ha ht hlen
  have hbm : (menuB m == menuB m) = true := by simp
  have tls : (ByteArray.mk (textM m).toArray).toList = textM m := Go.ByteArray.toList_eq _
  have hss : (textM m == textM m) = true := by simp
  obtain ⟨s, hs⟩ : ∃ s, s = textM m := ⟨_, rfl⟩
  rw [← hs] at HTX HTR HMB HTL tls hss
  have HS := Lib.hid hs
  clear hs
  generalize hbb : menuB m = bb at *
  have HBB := Lib.hid hbb
  clear hbb
  unfold menuV at HTX HTR HR1 HR2 HLD ⊢
  go_enter Tryz.func3, Tryz.ntmps3
  go_wp2_with (first
    | (go_at_call 6; refine hsh.mono ?_; clear hsh; rintro e w2 ⟨rfl, hb2⟩; rw [← hW1] at hb2; have HC2 := Lib.hid hb2; have HB2 := Lib.hid (HB1.out.trans (hb2.mono HB1.out.size)); have hl2 := HLD.out w2 hb2; have htx := HTX.out w2 HB2.out; clear hb2)
    | (go_at_call 7; refine htx.mono ?_; clear htx hl2; rintro e w3 ⟨rfl, hb3⟩; have HC3 := Lib.hid (HC2.out.trans (hb3.mono HC2.out.size)); have HB3 := Lib.hid (HB1.out.trans (HC3.out.mono HB1.out.size)); clear hb3))
  have hl3 := HLD.out w3 HC3.out
  have hdr : Below W1.heap.size W1 w3.drew := HC3.out.trans (Below.refl _ w3).drew
  have hl3d := HLD.out w3.drew hdr
  have HDR := Lib.hid hdr
  have HDW := Lib.hid (HB1.out.trans (hdr.mono HB1.out.size))
  clear hdr
  go_region_held (fun W' => (LoadS 24 (.pointer (some ⟨w.heap.size, 0, none⟩))).run Tryz.prog W' = .ok (.agg #[.int .i64 m.last, .int .i64 m.def_, .int .i64 m.next, .int .i64 m.trial, .slice A n c]) W') (first | exact HLD.out _ HC6.out | exact HLD.out _ HC5.out | exact HLD.out _ HC4.out | exact hl3d) (first
    | (go_at_call 8; refine (HR1.out _ HDW.out).mono ?_; clear HR1; rintro e w4 ⟨rfl, hb4⟩; have HC4 := Lib.hid (HDR.out.trans (hb4.mono HDR.out.size)); have HB4 := Lib.hid (HB1.out.trans (HC4.out.mono HB1.out.size)); clear hb4)
    | (go_at_call 9; refine (HR2.out _ HB4.out).mono ?_; clear HR2; rintro e w5 ⟨rfl, hb5⟩; have HC5 := Lib.hid (HC4.out.trans (hb5.mono HC4.out.size)); have HB5 := Lib.hid (HB1.out.trans (HC5.out.mono HB1.out.size)); clear hb5)
    | (go_at_call 10; refine (HTR.out _ HB5.out).mono ?_; clear HTR; rintro e w6 ⟨rfl, hb6⟩; have HC6 := Lib.hid (HC5.out.trans (hb6.mono HC5.out.size)); have HB6 := Lib.hid (HB1.out.trans (HC6.out.mono HB1.out.size)); clear hb6))
  cases hnil : (s == []) with
  | true =>
    go_wp2_with (go_at_call 13; refine (HR.out _ HB6.out).mono ?_; clear HR; rintro e w7 ⟨rfl, hb7⟩; have HB7 := Lib.hid (HB6.out.trans (hb7.mono HB6.out.size)); clear hb7)
    go_ret
    exact ⟨rfl, HB7.out⟩
  | false =>
    have hsne : s ≠ [] := by simpa using hnil
    have hmr := HMB.out hsne
    have HMR := Lib.hid (show menuB m = true by rw [HBB.out, hmr])
    obtain ⟨nn, hnn⟩ : ∃ nn, nn = s.length := ⟨_, rfl⟩
    have HNN := Lib.hid hnn.symm
    have HN0 := Lib.hid (show 0 < nn by
      rcases Nat.eq_zero_or_pos nn with h0 | h0
      · exact absurd (List.eq_nil_of_length_eq_zero (by omega)) hsne
      · exact h0)
    have hn0 : ¬ nn = 0 := by have := HN0.out; omega
    have hn62 : nn ≤ 9223372036854775807 := by have := HTL.out; omega
    have hp := bparse_good (w := w6) HTL.out (HMX.out.below HB6.out) (HAT.out.below HB6.out) (HTB.out.below HB6.out) ⟨m, HMR.out, HS.out.symm⟩
    clear hmr hnn hsne
    by_cases hneg : x < 0
    · obtain ⟨q, hq⟩ : ∃ q : Nat, -(x + 1) = (q : Int) := ⟨(-(x + 1)).toNat, by omega⟩
      have i1 : IntKind.i64.wrap (x + 1) = x + 1 := IntWalk.i64_in _ (by omega)
      have i2 : IntKind.i64.wrap (-(x + 1)) = -(x + 1) := IntWalk.i64_in _ (by omega)
      have HQE := Lib.hid hq
      clear hq hx0 hx1
      go_wp2_with (first
        | (go_at_call 11; refine hp.mono ?_; clear hp; rintro e w7 ⟨m', A', n', c', rfl, hG7, hm7, ht7, hb7⟩; obtain rfl := text_inj hm7 HMR.out (ht7.trans HS.out); obtain ⟨hst, hM8, hb8⟩ := new_menu w7 m' A' n' c'; have hl8 := hM8.load; have hC8 := HC6.out.trans ((hb7.trans (hb8.mono hb7.size)).mono HC6.out.size); have hl9 := HLD.out _ hC8; have hW8 := HB1.out.trans (hC8.mono HB1.out.size); have hsm := same_any ((hG7.below hb8).more hb8.size) ((H.out.below hW8).more hW8.size) (Nat.le_refl _); have HW8 := Lib.hid hW8; clear hG7 hM8 hb8 hC8 hW8 hm7 ht7 hb7)
        | (go_at_call 12; refine hsm.mono ?_; clear hsm; rintro e w9 ⟨rfl, hb9⟩; have HB9 := Lib.hid (HW8.out.trans (hb9.mono HW8.out.size)); obtain ⟨cap, w10, cur, hcv, hb10, hz10, hMB, hcur, hcap, hcm, hcsz⟩ := bytes_made w9 HNN.out (by have := HTL.out; have := HNN.out; unfold maxLen; omega); have HB10 := Lib.hid (HB9.out.trans (hb10.mono HB9.out.size)); clear hb9 hb10 hz10))
      obtain ⟨j, hj⟩ : ∃ j, j = q % nn := ⟨_, rfl⟩
      rw [HQE.out]
      clear i1 i2 hneg
      obtain ⟨x0c, hfz, hslc⟩ := flip_text hMB hcur HNN.out hcap hcm hcsz (j := j) (by rw [hj]; exact Nat.mod_lt _ HN0.out) y
      obtain ⟨x0, hxc⟩ := x0c
      have hxor := xor_u8 x0 y
      have hS := hslc (x0 ^^^ y)
      have hbx : Below w.heap.size w (w10.setCell ⟨w9.heap.size, j, none⟩ (.int .u8 ((x0 ^^^ y).toNat : Int))).drew := (HB10.out.setCell (p := ⟨w9.heap.size, j, none⟩) HB9.out.size _).drew
      have HBD := Lib.hid hbx
      have HRB := Lib.hid (fun (W : World) (hW : Below w.heap.size w W) => reads_any (w := W) (text := s.set j (x0 ^^^ y)) (by rw [List.length_set]; exact HTL.out) (HMX.out.below hW) (HAT.out.below hW) (HTB.out.below hW))
      have hcv2 := convert_bytes (P := Tryz.prog) (src := 32) Tryz.underlying32 Tryz.underlying5 (show Slc (w10.setCell ⟨w9.heap.size, j, none⟩ (.int .u8 ((x0 ^^^ y).toNat : Int))).drew _ 1 (some ⟨w9.heap.size, 0, none⟩) nn cap ((s.set j (x0 ^^^ y)).map bv) from hS.drew) 9 Tryz.underlying9
      generalize x0 ^^^ y = x1 at *
      have hjt : (q : Int).tmod (nn : Int) = (j : Int) := by rw [Int.tmod_eq_emod_of_nonneg (by omega), hj]; rfl
      have hjq : (q : Int) % (nn : Int) = (j : Int) := by rw [hj]; rfl
      have hjn : j < nn := by rw [hj]; exact Nat.mod_lt _ HN0.out
      clear hMB hcur hslc hS hbx hj
      go_region
      all_goals go_wp2_with (first
        | (go_at_call 13; refine (HRB.out _ HBD.out).mono ?_; clear HRB; rintro e w11 ⟨rfl, hb11⟩; have HB11 := Lib.hid (HBD.out.trans (hb11.mono HBD.out.size)); clear hb11)
        | (go_at_call 13; refine (HR.out _ HB11.out).mono ?_; clear HR; rintro e w12 ⟨rfl, hb12⟩; have HB12 := Lib.hid (HB11.out.trans (hb12.mono HB11.out.size)); clear hb12))
      all_goals go_ret
      all_goals exact ⟨rfl, HB12.out⟩
    · obtain ⟨q, hq⟩ : ∃ q : Nat, x = (q : Int) := ⟨x.toNat, by omega⟩
      subst hq
      clear hx0 hx1
      go_wp2_with (first
        | (go_at_call 11; refine hp.mono ?_; clear hp; rintro e w7 ⟨m', A', n', c', rfl, hG7, hm7, ht7, hb7⟩; obtain rfl := text_inj hm7 HMR.out (ht7.trans HS.out); obtain ⟨hst, hM8, hb8⟩ := new_menu w7 m' A' n' c'; have hl8 := hM8.load; have hC8 := HC6.out.trans ((hb7.trans (hb8.mono hb7.size)).mono HC6.out.size); have hl9 := HLD.out _ hC8; have hW8 := HB1.out.trans (hC8.mono HB1.out.size); have hsm := same_any ((hG7.below hb8).more hb8.size) ((H.out.below hW8).more hW8.size) (Nat.le_refl _); have HW8 := Lib.hid hW8; clear hG7 hM8 hb8 hC8 hW8 hm7 ht7 hb7)
        | (go_at_call 12; refine hsm.mono ?_; clear hsm; rintro e w9 ⟨rfl, hb9⟩; have HB9 := Lib.hid (HW8.out.trans (hb9.mono HW8.out.size)); obtain ⟨cap, w10, cur, hcv, hb10, hz10, hMB, hcur, hcap, hcm, hcsz⟩ := bytes_made w9 HNN.out (by have := HTL.out; have := HNN.out; unfold maxLen; omega); have HB10 := Lib.hid (HB9.out.trans (hb10.mono HB9.out.size)); clear hb9 hb10 hz10))
      obtain ⟨j, hj⟩ : ∃ j, j = q % nn := ⟨_, rfl⟩
      obtain ⟨x0c, hfz, hslc⟩ := flip_text hMB hcur HNN.out hcap hcm hcsz (j := j) (by rw [hj]; exact Nat.mod_lt _ HN0.out) y
      obtain ⟨x0, hxc⟩ := x0c
      have hxor := xor_u8 x0 y
      have hS := hslc (x0 ^^^ y)
      have hbx : Below w.heap.size w (w10.setCell ⟨w9.heap.size, j, none⟩ (.int .u8 ((x0 ^^^ y).toNat : Int))).drew := (HB10.out.setCell (p := ⟨w9.heap.size, j, none⟩) HB9.out.size _).drew
      have HBD := Lib.hid hbx
      have HRB := Lib.hid (fun (W : World) (hW : Below w.heap.size w W) => reads_any (w := W) (text := s.set j (x0 ^^^ y)) (by rw [List.length_set]; exact HTL.out) (HMX.out.below hW) (HAT.out.below hW) (HTB.out.below hW))
      have hcv2 := convert_bytes (P := Tryz.prog) (src := 32) Tryz.underlying32 Tryz.underlying5 (show Slc (w10.setCell ⟨w9.heap.size, j, none⟩ (.int .u8 ((x0 ^^^ y).toNat : Int))).drew _ 1 (some ⟨w9.heap.size, 0, none⟩) nn cap ((s.set j (x0 ^^^ y)).map bv) from hS.drew) 9 Tryz.underlying9
      generalize x0 ^^^ y = x1 at *
      have hjt : (q : Int).tmod (nn : Int) = (j : Int) := by rw [Int.tmod_eq_emod_of_nonneg (by omega), hj]; rfl
      have hjq : (q : Int) % (nn : Int) = (j : Int) := by rw [hj]; rfl
      have hjn : j < nn := by rw [hj]; exact Nat.mod_lt _ HN0.out
      clear hMB hcur hslc hS hbx hj
      go_region
      all_goals go_wp2_with (first
        | (go_at_call 13; refine (HRB.out _ HBD.out).mono ?_; clear HRB; rintro e w11 ⟨rfl, hb11⟩; have HB11 := Lib.hid (HBD.out.trans (hb11.mono HBD.out.size)); clear hb11)
        | (go_at_call 13; refine (HR.out _ HB11.out).mono ?_; clear HR; rintro e w12 ⟨rfl, hb12⟩; have HB12 := Lib.hid (HB11.out.trans (hb12.mono HB11.out.size)); clear hb12))
      all_goals go_ret
      all_goals exact ⟨rfl, HB12.out⟩
end
set_option maxRecDepth 100000 in
theorem BootTexts_walk {H : Type} {enc : TypeId × Value → H} (W : World) (base : Nat) (v0 v1 v2 v3 : Value) (d0 d1 d2 d3 : DataW H) (p0 p1 p2 p3 : List MemPlace)
    (o0 : Value.okWide Tryz.prog W .any base 24 v0) (o1 : Value.okWide Tryz.prog W .any base 9 v1) (o2 : Value.okWide Tryz.prog W .any base 3 v2) (o3 : Value.okWide Tryz.prog W .any base 5 v3)
    (h0 : DataW.Trod enc Tryz.prog W 0 (fun _ => true) true 24 v0 d0 p0) (h1 : DataW.Trod enc Tryz.prog W 0 (fun _ => true) true 9 v1 d1 p1) (h2 : DataW.Trod enc Tryz.prog W 0 (fun _ => true) true 3 v2 d2 p2) (h3 : DataW.Trod enc Tryz.prog W 0 (fun _ => true) true 5 v3 d3 p3)
    (hsz : (DataW.weightsEach Tryz.prog [24, 9, 3, 5] [d0, d1, d2, d3]).all (· ≤ reachBytes) = true) (hk : Rows.uptoSmall H [d0, d1, d2, d3] = true) (hL : laidMetH Tryz.prog Rows.bootTextsUptoRow.laid W) (hS : W.ShapedOpen Tryz.prog) :
    Calls Tryz.prog 3 #[v0, v1, v2, v3] W fun e w' => e = .returned (.bool true) ∧ Below W.heap.size W w' := by
  have hb := Bulk.bound hk
  have b0 := Bulk.part_le (d := d0) (l := [d0, d1, d2, d3]) (by simp)
  have b1 := Bulk.part_le (d := d1) (l := [d0, d1, d2, d3]) (by simp)
  obtain ⟨m, A, n, c, rfl, hG, hpl, hn⟩ := open_menu o0 h0 (by omega)
  obtain ⟨s, rfl, rfl, rfl, ws⟩ := open_string Tryz.underlying9 o1 h1
  obtain ⟨x, rfl, rfl, rfl, wx⟩ := open_int Tryz.underlying3 o2 h2
  obtain ⟨z, rfl, rfl, rfl, wz⟩ := open_int Tryz.underlying5 o3 h3
  rw [Bulk.string_eq] at b1
  have hs : s = ⟨s.data.toList.toArray⟩ := by cases s; simp
  have hx : -9223372036854775808 ≤ x ∧ x ≤ 9223372036854775807 := by simpa [Lit.wf, IntKind.min, IntKind.max, IntKind.signed, IntKind.bits] using wx
  have hz : 0 ≤ z ∧ z ≤ 255 := by simpa [Lit.wf, IntKind.min, IntKind.max, IntKind.signed, IntKind.bits] using wz
  have hy : z = ((UInt8.ofNat z.toNat).toNat : Int) := by
    rw [UInt8.toNat_ofNat_of_lt' (show z.toNat < 2 ^ 8 by omega)]
    omega
  rw [hs, hy]
  exact bootTexts_any hG (fun g hg => by have := hpl g hg; omega) (by omega) x hx.1 hx.2 _ (max_var hS) (atoi_vars (by kernel_rfl) (by kernel_rfl) hL) (pow_tab (by kernel_rfl) hL)
end Go.Proofs.YtdhlklidenfbeaaGreatDoor
