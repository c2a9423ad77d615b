/- The walk of TreeBack. -/
import Derived.Test.YtdhlklidenfbeaaGreatDoorParseQ
import Derived.Test.YtdhlklidenfbeaaGreatDoorLaw08T
import Derived.Test.YtdhlklidenfbeaaGreatDoorRef08C
import Derived.Test.YtdhlklidenfbeaaGreatDoorVars
import Derived.Test.YtdhlklidenfbeaaGreatDoorArgE
namespace Go.Proofs.YtdhlklidenfbeaaGreatDoor
open Go.RowKit Go.Shelf Go.ChangeShapes Go.WideShapes
set_option linter.unusedVariables false
set_option linter.unusedSimpArgs false

theorem tback_good {w : World} {B : Nat} {A : Option Addr} {n c : Nat} {b : Txt} (h : TextIn w B A n c b) (hB : B ≤ w.heap.size) (hn : n ≤ 2000000) (hm : MaxOk w) (ha : AtoiOk w) (ht : TabOk w) {l : List Ent} (hl : rightB l = true) (hb : bytesB l = b) :
    Calls Tryz.prog 16 #[.slice A n c] w fun e w' => ∃ es A m c, e = .returned (.tuple #[.slice A m c, .int .i64 0]) ∧ OwnEnts w' w.heap.size (.slice A m c) m es ∧ es.map EV.ent = l ∧ Below w.heap.size w w' := by
  refine (tparse_any h hB hn hm ha ht).mono ?_
  rintro e w' ⟨hbel, ⟨es, A, m, c, rfl, ho, hr, he⟩ | ⟨_, hno⟩⟩
  · exact ⟨es, A, m, c, rfl, ho, bytes_inj hr hl (he.trans hb.symm), hbel⟩
  · exact absurd hb (hno l hl)
theorem tbytes_none {w : World} {B : Nat} {A : Option Addr} {n c : Nat} {es : List EV} (h : EntsAt w B A n c es) (hB : B ≤ w.heap.size) (hp : ∀ e ∈ es, e.path.length ≤ 1000000000) (hr : rightB (es.map EV.ent) = false) :
    Calls Tryz.prog 19 #[.slice A n c] w fun e w' => ∃ A' c', e = .returned (.slice A' 0 c') ∧ Below w.heap.size w w' := by
  refine (bytes_any0 h hB hp (fun e => by rw [hr] at e; cases e)).mono ?_
  rintro e w' ⟨A', n', c', rfl, ho, hb⟩
  have h1 := ho.1
  have h2 : bytesB (es.map EV.ent) = [] := by unfold bytesB; rw [if_neg (by rw [hr]; decide)]
  rw [h2] at h1
  obtain rfl : n' = 0 := by simpa using h1.symm
  exact ⟨A', c', rfl, hb⟩
theorem tbytes_good {w : World} {B : Nat} {A : Option Addr} {n c : Nat} {es : List EV} (h : EntsAt w B A n c es) (hB : B ≤ w.heap.size) (hp : ∀ e ∈ es, e.path.length ≤ 1000000000) (hr : rightB (es.map EV.ent) = true) (ht : TabOk w) :
    Calls Tryz.prog 19 #[.slice A n c] w fun e w' => ∃ A' n' c', e = .returned (.slice A' n' c') ∧ TextIn w' w'.heap.size A' n' c' (bytesB (es.map EV.ent)) ∧ n' ≤ 2000000 ∧ Below w.heap.size w w' := by
  refine (bytes_any0 h hB hp (fun _ e he => ht.itoa _ (by
    have h1 := (rightB_len hr).2 e.ent (List.mem_map.2 ⟨e, he, rfl⟩)
    have : e.data.length ≤ 2048 := h1.2
    omega))).mono ?_
  rintro e w' ⟨A', n', c', rfl, ho, hb⟩
  refine ⟨A', n', c', rfl, ⟨own_slc_of ho, fun hA => ?_⟩, ?_, hb⟩
  · rcases ho.2 with ⟨e, _⟩ | ⟨g, cap, cur, e, _⟩
    · injection e with _ _ e
    · injection e with e
      rw [hA] at e
      cases e
  · have h1 := ho.1
    have h2 : bytesB (es.map EV.ent) = entsT (es.map EV.ent) (es.map EV.ent).length ++ [101, 110, 100, 10] := by unfold bytesB; rw [if_pos hr]
    have h3 := entsT_length (rightB_len hr) (es.map EV.ent).length
    rw [h2, List.length_map, List.length_append] at h1
    simp only [List.length_cons, List.length_nil] at h1
    omega
set_option maxRecDepth 100000 in
set_option maxHeartbeats 4000000 in
theorem treeBack_any {w : World} {A A' : Option Addr} {n c n' c' : Nat} {es fs : List EV} (h : EntsAt w w.heap.size A n c es) (h' : EntsAt w w.heap.size A' n' c' fs) (hp : ∀ e ∈ es, e.path.length ≤ 1000000000) (hp' : ∀ e ∈ fs, e.path.length ≤ 1000000000)
    (hm : MaxOk w) (ha : AtoiOk w) (ht : TabOk w) :
    Calls Tryz.prog 5 #[.slice A n c, .slice A' n' c'] w fun e w' => e = .returned (.bool true) ∧ Below w.heap.size w w' := by
  have hs := shown08_any w
  have H := Lib.hid h
  have H' := Lib.hid h'
  have HP := Lib.hid hp
  have HP' := Lib.hid hp'
  have HM := Lib.hid hm
  have HA := Lib.hid ha
  have HT := Lib.hid ht
  clear h h' hp hp' hm ha ht
  cases hr1 : rightB (es.map EV.ent) with
  | false =>
    have HR1 := Lib.hid hr1
    cases hr2 : rightB (fs.map EV.ent) with
    | false =>
      have HR2 := Lib.hid hr2
      clear hr1 hr2
      go_enter Tryz.func5, Tryz.ntmps5
      go_wp2_with (first
        | (go_at_call 14; refine hs.mono ?_; clear hs; rintro e1 w1 ⟨rfl, hb1⟩; have HB1 := Lib.hid hb1; have hy1 := tbytes_none (H.out.below hb1) hb1.size HP.out HR1.out; clear hb1)
        | (go_at_call 19; refine hy1.mono ?_; clear hy1; rintro e2 w2 ⟨A2, c2, rfl, hb2⟩; have HW2 := Lib.hid (HB1.out.trans (hb2.mono HB1.out.size)); have hy2 := tbytes_none (H'.out.below HW2.out) HW2.out.size HP'.out HR2.out; clear hb2)
        | (go_at_call 19; refine hy2.mono ?_; clear hy2; rintro e3 w3 ⟨A3, c3, rfl, hb3⟩; have HB3 := Lib.hid hb3; have HW3 := Lib.hid (HW2.out.trans (hb3.mono HW2.out.size)); have hq1 := right_any (H.out.below HW3.out) HW3.out.size HP.out; rw [HR1.out] at hq1; clear hb3)
        | (go_at_call 20; refine hq1.mono ?_; clear hq1; rintro e4 w4 ⟨rfl, hb4⟩; have HB4 := Lib.hid hb4; have HW4 := Lib.hid (HW3.out.trans (hb4.mono HW3.out.size)); have hq2 := right_any (H'.out.below HW4.out) HW4.out.size HP'.out; rw [HR2.out] at hq2; clear hb4)
        | (go_at_call 20; refine hq2.mono ?_; clear hq2; rintro e5 w5 ⟨rfl, hb5⟩; have HB5 := Lib.hid hb5; have HW5 := Lib.hid (HW4.out.trans (hb5.mono HW4.out.size)); clear hb5))
      all_goals go_ret
      all_goals exact ⟨rfl, HW5.out⟩
    | true =>
      have HR2 := Lib.hid hr2
      clear hr1 hr2
      go_enter Tryz.func5, Tryz.ntmps5
      go_wp2_with (first
        | (go_at_call 14; refine hs.mono ?_; clear hs; rintro e1 w1 ⟨rfl, hb1⟩; have HB1 := Lib.hid hb1; have hy1 := tbytes_none (H.out.below hb1) hb1.size HP.out HR1.out; clear hb1)
        | (go_at_call 19; refine hy1.mono ?_; clear hy1; rintro e2 w2 ⟨A2, c2, rfl, hb2⟩; have HW2 := Lib.hid (HB1.out.trans (hb2.mono HB1.out.size)); have hy2 := tbytes_good (H'.out.below HW2.out) HW2.out.size HP'.out HR2.out (HT.out.below HW2.out); clear hb2)
        | (go_at_call 19; refine hy2.mono ?_; clear hy2; rintro e3 w3 ⟨A3, n3, c3, rfl, ht3, hn3, hb3⟩; have HY := Lib.hid ht3; have HB3 := Lib.hid hb3; have HW3 := Lib.hid (HW2.out.trans (hb3.mono HW2.out.size)); have hq1 := right_any (H.out.below HW3.out) HW3.out.size HP.out; rw [HR1.out] at hq1; clear ht3 hn3 hb3)
        | (go_at_call 20; refine hq1.mono ?_; clear hq1; rintro e4 w4 ⟨rfl, hb4⟩; have HB4 := Lib.hid hb4; have HW4 := Lib.hid (HW3.out.trans (hb4.mono HW3.out.size)); have hq2 := right_any (H'.out.below HW4.out) HW4.out.size HP'.out; rw [HR2.out] at hq2; clear hb4)
        | (go_at_call 20; refine hq2.mono ?_; clear hq2; rintro e5 w5 ⟨rfl, hb5⟩; have HB5 := Lib.hid hb5; have HW5 := Lib.hid (HW4.out.trans (hb5.mono HW4.out.size)); clear hb5))
      all_goals go_ret
      all_goals exact ⟨rfl, HW5.out⟩
  | true =>
    have HR1 := Lib.hid hr1
    cases hr2 : rightB (fs.map EV.ent) with
    | false =>
      have HR2 := Lib.hid hr2
      clear hr1 hr2
      go_enter Tryz.func5, Tryz.ntmps5
      go_wp2_with (first
        | (go_at_call 14; refine hs.mono ?_; clear hs; rintro e1 w1 ⟨rfl, hb1⟩; have HB1 := Lib.hid hb1; have hy1 := tbytes_good (H.out.below hb1) hb1.size HP.out HR1.out (HT.out.below hb1); clear hb1)
        | (go_at_call 19; refine hy1.mono ?_; clear hy1; rintro e2 w2 ⟨A2, n2, c2, rfl, ht2, hn2, hb2⟩; have HX := Lib.hid ht2; have HXN := Lib.hid hn2; have HW2 := Lib.hid (HB1.out.trans (hb2.mono HB1.out.size)); have hy2 := tbytes_none (H'.out.below HW2.out) HW2.out.size HP'.out HR2.out; clear ht2 hn2 hb2)
        | (go_at_call 19; refine hy2.mono ?_; clear hy2; rintro e3 w3 ⟨A3, c3, rfl, hb3⟩; have HB3 := Lib.hid hb3; have HW3 := Lib.hid (HW2.out.trans (hb3.mono HW2.out.size)); have hq1 := right_any (H.out.below HW3.out) HW3.out.size HP.out; rw [HR1.out] at hq1; clear hb3)
        | (go_at_call 20; refine hq1.mono ?_; clear hq1; rintro e4 w4 ⟨rfl, hb4⟩; have HB4 := Lib.hid hb4; have HW4 := Lib.hid (HW3.out.trans (hb4.mono HW3.out.size)); have hq2 := right_any (H'.out.below HW4.out) HW4.out.size HP'.out; rw [HR2.out] at hq2; clear hb4)
        | (go_at_call 20; refine hq2.mono ?_; clear hq2; rintro e5 w5 ⟨rfl, hb5⟩; have HB5 := Lib.hid hb5; have HW5 := Lib.hid (HW4.out.trans (hb5.mono HW4.out.size)); clear hb5))
      all_goals go_ret
      all_goals exact ⟨rfl, HW5.out⟩
    | true =>
      have HR2 := Lib.hid hr2
      have heq : (bytesB (es.map EV.ent) == bytesB (fs.map EV.ent)) = entsEq (es.map EV.ent) (fs.map EV.ent) := by
        rw [Bool.eq_iff_iff, beq_iff_eq, entsEq_iff]
        exact ⟨fun e => bytes_inj hr1 hr2 e, fun e => by rw [e]⟩
      have t1 : (ByteArray.mk (bytesB (es.map EV.ent)).toArray).toList = bytesB (es.map EV.ent) := Go.ByteArray.toList_eq _
      have t2 : (ByteArray.mk (bytesB (fs.map EV.ent)).toArray).toList = bytesB (fs.map EV.ent) := Go.ByteArray.toList_eq _
      clear hr1 hr2
      go_enter Tryz.func5, Tryz.ntmps5
      go_wp2_with (first
        | (go_at_call 14; refine hs.mono ?_; clear hs; rintro e1 w1 ⟨rfl, hb1⟩; have HB1 := Lib.hid hb1; have hy1 := tbytes_good (H.out.below hb1) hb1.size HP.out HR1.out (HT.out.below hb1); clear hb1)
        | (go_at_call 19; refine hy1.mono ?_; clear hy1; rintro e2 w2 ⟨A2, n2, c2, rfl, ht2, hn2, hb2⟩; have HX := Lib.hid ht2; have HXN := Lib.hid hn2; have HW2 := Lib.hid (HB1.out.trans (hb2.mono HB1.out.size)); have hy2 := tbytes_good (H'.out.below HW2.out) HW2.out.size HP'.out HR2.out (HT.out.below HW2.out); clear ht2 hn2 hb2)
        | (go_at_call 19; refine hy2.mono ?_; clear hy2; rintro e3 w3 ⟨A3, n3, c3, rfl, ht3, hn3, hb3⟩; have HY := Lib.hid ht3; have HB3 := Lib.hid hb3; have HW3 := Lib.hid (HW2.out.trans (hb3.mono HW2.out.size)); have hq1 := right_any (H.out.below HW3.out) HW3.out.size HP.out; rw [HR1.out] at hq1; clear ht3 hn3 hb3)
        | (go_at_call 20; refine hq1.mono ?_; clear hq1; rintro e4 w4 ⟨rfl, hb4⟩; have HB4 := Lib.hid hb4; have HW4 := Lib.hid (HW3.out.trans (hb4.mono HW3.out.size)); have hq2 := right_any (H'.out.below HW4.out) HW4.out.size HP'.out; rw [HR2.out] at hq2; clear hb4)
        | (go_at_call 20; refine hq2.mono ?_; clear hq2; rintro e5 w5 ⟨rfl, hb5⟩; have HB5 := Lib.hid hb5; have HW5 := Lib.hid (HW4.out.trans (hb5.mono HW4.out.size)); clear hb5; have HB25 := Lib.hid (HB3.out.trans ((HB4.out.trans (HB5.out.mono HB4.out.size)).mono HB3.out.size)); have hpa := tback_good (HX.out.below HB25.out) HB25.out.size HXN.out (HM.out.below HW5.out) (HA.out.below HW5.out) (HT.out.below HW5.out) HR1.out rfl)
        | (go_at_call 16; refine hpa.mono ?_; clear hpa; rintro e6 w6 ⟨es6, A6, m6, c6, rfl, ho6, hm6, hb6⟩; have HB6 := Lib.hid hb6; have HW6 := Lib.hid (HW5.out.trans (hb6.mono HW5.out.size)); have hsa := refSame_any ho6.ents (H.out.below HW6.out); rw [hm6, (entsEq_iff _ _).2 rfl] at hsa; clear ho6 hm6 hb6)
        | (go_at_call 17; refine hsa.mono ?_; clear hsa; rintro e7 w7 ⟨rfl, q7, rfl⟩; have HW7 := Lib.hid (HW6.out.trans (dr_below w6 q7)); have hsb := refSame_any (H.out.below HW7.out) (H'.out.below HW7.out))
        | (go_at_call 17; refine hsb.mono ?_; clear hsb; rintro e8 w8 ⟨rfl, q8, rfl⟩; have HW8 := Lib.hid (HW6.out.trans (dr_below w6 (q7 + q8))); have HB28 := Lib.hid (HB25.out.trans ((HB6.out.trans (dr_below w6 (q7 + q8))).mono HB25.out.size)); have HB38 := Lib.hid ((HB4.out.trans (HB5.out.mono HB4.out.size)).trans ((HB6.out.trans (dr_below w6 (q7 + q8))).mono (Nat.le_trans HB4.out.size HB5.out.size))); have hcvx := convert_bytes (P := Tryz.prog) (src := 32) Tryz.underlying32 Tryz.underlying5 ((HX.out.below HB28.out).slc) 9 Tryz.underlying9; have hcvy := convert_bytes (P := Tryz.prog) (src := 32) Tryz.underlying32 Tryz.underlying5 ((HY.out.below HB38.out).slc) 9 Tryz.underlying9))
      all_goals go_ret
      all_goals exact ⟨rfl, HW8.out⟩
set_option maxRecDepth 100000 in
theorem TreeBack_walk {H : Type} {enc : TypeId × Value → H} (W : World) (base : Nat) (v0 v1 : Value) (d0 d1 : DataW H) (p0 p1 : List MemPlace)
    (o0 : Value.okWide Tryz.prog W .any base 35 v0) (o1 : Value.okWide Tryz.prog W .any base 35 v1) (h0 : DataW.Trod enc Tryz.prog W 0 (fun _ => true) true 35 v0 d0 p0) (h1 : DataW.Trod enc Tryz.prog W 0 (fun _ => true) true 35 v1 d1 p1)
    (hsz : (DataW.weightsEach Tryz.prog [35, 35] [d0, d1]).all (· ≤ reachBytes) = true) (hk : Rows.uptoSmall H [d0, d1] = true) (hL : laidMetH Tryz.prog Rows.treeBackUptoRow.laid W) (hS : W.ShapedOpen Tryz.prog) :
    Calls Tryz.prog 5 #[v0, v1] W fun e w' => e = .returned (.bool true) ∧ Below W.heap.size W w' := by
  have hb := Bulk.bound hk
  have b0 := Nat.le_trans (Bulk.part_le (d := d0) (l := [d0, d1]) (by simp)) hb
  have b1 := Nat.le_trans (Bulk.part_le (d := d1) (l := [d0, d1]) (by simp)) hb
  obtain ⟨A, n, c, l, rfl, hE, hs, hn, _⟩ := open_ents o0 h0 b0
  obtain ⟨A', n', c', l', rfl, hE', hs', hn', _⟩ := open_ents o1 h1 b1
  exact treeBack_any hE hE' (fun e he => by have := (hs e he).1; omega) (fun e he => by have := (hs' e he).1; omega) (max_var hS) (atoi_vars (by kernel_rfl) (by kernel_rfl) hL) (pow_tab (by kernel_rfl) hL)
end Go.Proofs.YtdhlklidenfbeaaGreatDoor
