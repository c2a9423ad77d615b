/- The walk of TreeParses. -/
import Derived.Test.YtdhlklidenfbeaaGreatDoorParseV
import Derived.Test.YtdhlklidenfbeaaGreatDoorSpoil08
import Derived.Test.YtdhlklidenfbeaaGreatDoorLaw08T
import Derived.Test.YtdhlklidenfbeaaGreatDoorRef08C
import Derived.Test.YtdhlklidenfbeaaGreatDoorVars
namespace Go.Proofs.YtdhlklidenfbeaaGreatDoor
open Go.RowKit Go.Shelf Go.ChangeShapes Go.WideShapes
set_option linter.unusedVariables false
set_option linter.unusedSimpArgs false

theorem tparse_good {w : World} {B : Nat} {A : Option Addr} {n c : Nat} {b : Txt} (h : TextIn w B A n c b) (hB : B ≤ w.heap.size) (hn : n ≤ 2000000) (hm : MaxOk w) (ha : AtoiOk w) (ht : TabOk w) {l : List Ent} (hl : rightB l = true) (hb : bytesB l = b) :
    Calls Tryz.prog 16 #[.slice A n c] w fun e w' => ∃ es A m c, e = .returned (.tuple #[.slice A m c, .int .i64 0]) ∧ OwnEnts w' w.heap.size (.slice A m c) m es ∧ es.map EV.ent = l ∧ Below w.heap.size w w' := by
  refine (tparse_any h hB hn hm ha ht).mono ?_
  rintro e w' ⟨hbel, ⟨es, A, m, c, rfl, ho, hr, he⟩ | ⟨_, hno⟩⟩
  · exact ⟨es, A, m, c, rfl, ho, bytes_inj hr hl (he.trans hb.symm), hbel⟩
  · exact absurd hb (hno l hl)
theorem tparse_none {w : World} {B : Nat} {A : Option Addr} {n c : Nat} {b : Txt} (h : TextIn w B A n c b) (hB : B ≤ w.heap.size) (hn : n ≤ 2000000) (hm : MaxOk w) (ha : AtoiOk w) (ht : TabOk w) (hno : ¬ ∃ l, rightB l = true ∧ bytesB l = b) :
    Calls Tryz.prog 16 #[.slice A n c] w fun e w' => ∃ es A m c, e = .returned (.tuple #[.slice A m c, .int .i64 63]) ∧ OwnEnts w' w.heap.size (.slice A m c) m es ∧ es.map EV.ent = [] ∧ Below w.heap.size w w' := by
  refine (tparse_any h hB hn hm ha ht).mono ?_
  rintro e w' ⟨hbel, ⟨es, A, m, c, rfl, ho, hr, he⟩ | ⟨rfl, _⟩⟩
  · exact absurd ⟨_, hr, he⟩ hno
  · exact ⟨[], none, 0, 0, rfl, OwnEnts.nil _ _, rfl, hbel⟩
theorem refParse_good {w : World} {B : Nat} {A : Option Addr} {n c : Nat} {b : Txt} (h : TextIn w B A n c b) (hB : B ≤ w.heap.size) (hn : n ≤ 2000000) {l : List Ent} (hl : rightB l = true) (hb : bytesB l = b) :
    Calls Tryz.prog 15 #[.slice A n c] w fun e w' => ∃ es A m c, e = .returned (.tuple #[.slice A m c, .bool true]) ∧ OwnEnts w' w.heap.size (.slice A m c) m es ∧ es.map EV.ent = l ∧ Below w.heap.size w w' := by
  refine (refParse_any h hB hn).mono ?_
  rintro e w' ⟨hbel, ⟨es, A, m, c, rfl, ho, hr, he⟩ | ⟨_, hno⟩⟩
  · exact ⟨es, A, m, c, rfl, ho, bytes_inj hr hl (he.trans hb.symm), hbel⟩
  · exact absurd hb (hno l hl)
theorem refParse_none {w : World} {B : Nat} {A : Option Addr} {n c : Nat} {b : Txt} (h : TextIn w B A n c b) (hB : B ≤ w.heap.size) (hn : n ≤ 2000000) (hno : ¬ ∃ l, rightB l = true ∧ bytesB l = b) :
    Calls Tryz.prog 15 #[.slice A n c] w fun e w' => ∃ es A m c, e = .returned (.tuple #[.slice A m c, .bool false]) ∧ OwnEnts w' w.heap.size (.slice A m c) m es ∧ es.map EV.ent = [] ∧ Below w.heap.size w w' := by
  refine (refParse_any h hB hn).mono ?_
  rintro e w' ⟨hbel, ⟨es, A, m, c, rfl, ho, hr, he⟩ | ⟨rfl, _⟩⟩
  · exact absurd ⟨_, hr, he⟩ hno
  · exact ⟨[], none, 0, 0, rfl, OwnEnts.nil _ _, rfl, hbel⟩
/-- The bytes, and one more behind, in memory of the call's own. -/
theorem more_e {w w1 : World} {A : Option Addr} {n c : Nat} {b : Txt} (h : TextIn w w.heap.size A n c b) (hb : Below w.heap.size w w1) (hn : n ≤ 2000000) :
    ∃ A2 c2 w2 A3 c3 w3, (Builtin.append_ #[32, 32] 32 #[.slice (some ⟨w1.heap.size, 0, none⟩) 0 0, .slice A n c]).run Tryz.prog (w1.alloc (.cells #[] 5)) = .ok (.slice A2 n c2) w2 ∧
      (Builtin.append_ #[32, 32] 32 #[.slice A2 n c2, .slice (some ⟨w2.heap.size, 0, none⟩) 1 1]).run Tryz.prog (w2.alloc (.cells #[.int .u8 101] 5)) = .ok (.slice A3 (n + 1) c3) w3 ∧
      w3.ownsRow w1.heap.size 5 1 (.slice A3 (n + 1) c3) (n + 1) ((b ++ [101]).map bv) ∧ Below w1.heap.size w1 w3 := by
  have ho0 := empty_own w1 w1.heap.size (Nat.le_refl _)
  have hb1 : Below w1.heap.size w1 (w1.alloc (.cells #[] 5)) := (Below.refl _ w1).alloc (Nat.le_refl _) _
  obtain ⟨A2, c2, w2, r2, o2, g2, _⟩ := append_bytes (w1.alloc (.cells #[] 5)) w1.heap.size _ 0 [] ho0 w.heap.size A n c b ((h.below (hb.trans (hb1.mono hb.size))).slc) (by omega) (by simp)
  rw [Nat.zero_add] at r2 o2
  rw [List.nil_append] at o2
  have hb2 := grown_below hb1 ho0 (by simp) g2
  have hs := slc_new w2 5 (0, 0) #[.int .u8 101] (sz := 1) (n := 1) (c := 1) rfl (Nat.le_refl _) (by decide)
  obtain ⟨A3, c3, w3, r3, o3, g3, _⟩ := append_bytes (w2.alloc (.cells #[.int .u8 101] 5)) w1.heap.size _ n b (o2.alloc _) _ _ 1 1 [101] hs (by omega) (by have := hb2.size; simp; omega)
  exact ⟨A2, c2, w2, A3, c3, w3, r2, r3, o3, grown_below (hb2.alloc hb2.size _) (o2.alloc _) (by have := hb2.size; simp; omega) g3⟩
set_option maxRecDepth 100000 in
set_option maxHeartbeats 4000000 in
theorem treeParses_any {w : World} {A : Option Addr} {n c : Nat} {b : Txt} (h : TextIn w w.heap.size A n c b) (hn : n ≤ 1999999) (hm : MaxOk w) (ha : AtoiOk w) (ht : TabOk w) :
    Calls Tryz.prog 4 #[.slice A n c] w fun e w' => e = .returned (.bool true) ∧ Below w.heap.size w w' := by
  have hs := shown08_any w
  have hlen := h.len
  have H := Lib.hid h
  have HM := Lib.hid hm
  have HA := Lib.hid ha
  have HT := Lib.hid ht
  have HL := Lib.hid hlen
  clear h hm ha ht hlen
  by_cases hex : ∃ l, rightB l = true ∧ bytesB l = b
  · obtain ⟨l, hl, hbl⟩ := hex
    have HLR := Lib.hid hl
    have HLB := Lib.hid hbl
    have HL24 := Lib.hid (rightB_len hl).1
    clear hl hbl
    go_enter Tryz.func4, Tryz.ntmps4
    go_wp2_with (first
      | (go_at_call 14; refine hs.mono ?_; clear hs; rintro e1 w1 ⟨rfl, hb1⟩; have HB1 := Lib.hid hb1; obtain ⟨A2, c2, w2, A3, c3, w3, r2, r3, o3, hb3⟩ := more_e H.out hb1 (by omega); have HR2 := Lib.hid r2; have HR3 := Lib.hid r3; have HO3 := Lib.hid o3; have HB3 := Lib.hid hb3; clear r2 r3 o3 hb3 hb1)
      | (at_builtin; refine wpList_append_run rfl _ _ _ rfl rfl rfl HR2.out ?_; clear HR2)
      | (at_builtin; refine wpList_append_run rfl _ _ _ rfl rfl rfl HR3.out ?_; clear HR3; have HB03 := Lib.hid (HB1.out.trans (HB3.out.mono HB1.out.size)))
      | (go_at_call 15; refine (refParse_good (H.out.below HB03.out) HB03.out.size (by omega) HLR.out HLB.out).mono ?_; rintro e4 w4 ⟨es4, A4, m4, c4, rfl, ho4, hm4, hb4⟩; have HO4 := Lib.hid ho4; have HM4 := Lib.hid hm4; have HB4 := Lib.hid hb4; have HW4 := Lib.hid (HB03.out.trans (hb4.mono HB03.out.size)); clear ho4 hm4 hb4))
    have HO := Lib.hid (own_below HO3.out HB4.out)
    have HA3 := Lib.hid (show ∃ g, A3 = some ⟨g, 0, none⟩ from by
      rcases HO3.out.2 with ⟨_, h0⟩ | ⟨g, cap, cur, e, _⟩
      · omega
      · injection e with e1
        exact ⟨g, e1⟩)
    have hcap : n + 1 ≤ c3 := (own_slc_of HO3.out).le
    have hcapi : (n : Int) ≤ (c3 : Int) := by omega
    have hc62 : c3 ≤ 9223372036854775807 := by have h2 := (own_slc_of HO3.out).cmax; unfold maxLen at h2; omega
    have h0n : (0 : Int) ≤ (n : Int) := by omega
    go_loopw [7] (fun i wr => ∃ k : Nat, k ≤ 2 ∧ i = .int .i64 (k : Int) ∧ Aside (Below w4.heap.size w4 wr)) (fun i _ => 2 - (intOf i).toNat)
    case atStart => exact ⟨0, by decide, rfl, Below.refl _ _⟩
    case round =>
      obtain ⟨k, hk, rfl, hb⟩ := hrel
      by_cases hlt : k < 2
      · have HWR := Lib.hid (HW4.out.trans (hb.out.mono HW4.out.size))
        have HOS := Lib.hid ((own_slc_of HO.out).below hb.out)
        have HTX := Lib.hid (show TextIn wr w4.heap.size A3 n c3 b from ⟨by
          have h1 := HOS.out.upto (m := n) (by omega)
          rwa [← List.map_take, List.take_left' HL.out] at h1, fun e => by obtain ⟨g, hg⟩ := HA3.out; rw [hg] at e; cases e⟩)
        have HBX := Lib.hid ((H.out.below HWR.out).slc)
        have hp := tparse_good HTX.out hb.out.size (by omega) (HM.out.below HWR.out) (HA.out.below HWR.out) (HT.out.below HWR.out) HLR.out HLB.out
        have hsz : ¬ 9223372036854775807 < b.length + 1 := by have := HL.out; omega
        have hbsz : (ByteArray.mk b.toArray).size = b.length := rfl
        have hcat : (((⟨b.toArray⟩ : ByteArray) ++ ⟨#[101]⟩).toList) = b ++ [101] := by rw [ByteArray.mk_append_mk, Go.ByteArray.toList_eq]
        have htl : (ByteArray.mk (b ++ [101]).toArray).toList = b ++ [101] := Go.ByteArray.toList_eq _
        have heq : ((b ++ [101]) == (b ++ [101])) = true := by simp
        go_wp2_with (first
          | (go_at_call 16; refine hp.mono ?_; clear hp; rintro e5 w5 ⟨es5, A5, m5, c5, rfl, ho5, hm5, hb5⟩; have hsm := refSame_any ho5.ents ((HO4.out.below ((hb.out).trans (hb5.mono hb.out.size))).ents); rw [hm5, HM4.out, (entsEq_iff l l).2 rfl] at hsm; have HM5 := Lib.hid hm5; have HO5 := Lib.hid ho5; have HB5 := Lib.hid hb5; clear ho5 hb5)
          | (go_at_call 17; refine hsm.mono ?_; clear hsm; rintro e6 w6 ⟨rfl, q6, rfl⟩; have HD6 := Lib.hid (dr_below w5 q6 (B := wr.heap.size)); have hcvo := convert_bytes (P := Tryz.prog) (src := 32) Tryz.underlying32 Tryz.underlying5 (HOS.out.below ((HB5.out.trans (dr_below w5 q6)).mono (by have := hb.out.size; omega))) 9 Tryz.underlying9; have hcvb := convert_bytes (P := Tryz.prog) (src := 32) Tryz.underlying32 Tryz.underlying5 (HBX.out.below ((HB5.out.trans (dr_below w5 q6)).mono HWR.out.size)) 9 Tryz.underlying9)
          | (go_at_call 18; refine (spoil08_any (HO5.out.below (dr_below w5 q6)) (by have h1 := HO5.out.len; have h2 := congrArg List.length HM5.out; rw [List.length_map] at h2; have := HL24.out; omega) (fun e he => by have h1 := HO5.out.slc e he; have h2 := h1.le; have h3 := h1.cmax; unfold maxLen at h3; omega)).mono ?_; rintro e7 w7 ⟨rfl, hb7⟩; have HB7 := Lib.hid hb7; clear hb7))
        exact ⟨⟨k + 1, by omega, by go_num, hb.out.trans (((HB5.out.trans (dr_below w5 q6)).trans HB7.out).mono hb.out.size)⟩, by simp [intOf]; omega⟩
      · go_wp2_with (fail)
        go_ret
        exact ⟨rfl, HW4.out.trans (hb.out.mono HW4.out.size)⟩
  · have HNO := Lib.hid hex
    have HL24 := Lib.hid (show ([] : List Ent).length ≤ 24 by decide)
    clear hex
    go_enter Tryz.func4, Tryz.ntmps4
    go_wp2_with (first
      | (go_at_call 14; refine hs.mono ?_; clear hs; rintro e1 w1 ⟨rfl, hb1⟩; have HB1 := Lib.hid hb1; obtain ⟨A2, c2, w2, A3, c3, w3, r2, r3, o3, hb3⟩ := more_e H.out hb1 (by omega); have HR2 := Lib.hid r2; have HR3 := Lib.hid r3; have HO3 := Lib.hid o3; have HB3 := Lib.hid hb3; clear r2 r3 o3 hb3 hb1)
      | (at_builtin; refine wpList_append_run rfl _ _ _ rfl rfl rfl HR2.out ?_; clear HR2)
      | (at_builtin; refine wpList_append_run rfl _ _ _ rfl rfl rfl HR3.out ?_; clear HR3; have HB03 := Lib.hid (HB1.out.trans (HB3.out.mono HB1.out.size)))
      | (go_at_call 15; refine (refParse_none (H.out.below HB03.out) HB03.out.size (by omega) HNO.out).mono ?_; rintro e4 w4 ⟨es4, A4, m4, c4, rfl, ho4, hm4, hb4⟩; have HO4 := Lib.hid ho4; have HM4 := Lib.hid hm4; have HB4 := Lib.hid hb4; have HW4 := Lib.hid (HB03.out.trans (hb4.mono HB03.out.size)); clear ho4 hm4 hb4))
    have HO := Lib.hid (own_below HO3.out HB4.out)
    have HA3 := Lib.hid (show ∃ g, A3 = some ⟨g, 0, none⟩ from by
      rcases HO3.out.2 with ⟨_, h0⟩ | ⟨g, cap, cur, e, _⟩
      · omega
      · injection e with e1
        exact ⟨g, e1⟩)
    have hcap : n + 1 ≤ c3 := (own_slc_of HO3.out).le
    have hcapi : (n : Int) ≤ (c3 : Int) := by omega
    have hc62 : c3 ≤ 9223372036854775807 := by have h2 := (own_slc_of HO3.out).cmax; unfold maxLen at h2; omega
    have h0n : (0 : Int) ≤ (n : Int) := by omega
    go_loopw [7] (fun i wr => ∃ k : Nat, k ≤ 2 ∧ i = .int .i64 (k : Int) ∧ Aside (Below w4.heap.size w4 wr)) (fun i _ => 2 - (intOf i).toNat)
    case atStart => exact ⟨0, by decide, rfl, Below.refl _ _⟩
    case round =>
      obtain ⟨k, hk, rfl, hb⟩ := hrel
      by_cases hlt : k < 2
      · have HWR := Lib.hid (HW4.out.trans (hb.out.mono HW4.out.size))
        have HOS := Lib.hid ((own_slc_of HO.out).below hb.out)
        have HTX := Lib.hid (show TextIn wr w4.heap.size A3 n c3 b from ⟨by
          have h1 := HOS.out.upto (m := n) (by omega)
          rwa [← List.map_take, List.take_left' HL.out] at h1, fun e => by obtain ⟨g, hg⟩ := HA3.out; rw [hg] at e; cases e⟩)
        have HBX := Lib.hid ((H.out.below HWR.out).slc)
        have hp := tparse_none HTX.out hb.out.size (by omega) (HM.out.below HWR.out) (HA.out.below HWR.out) (HT.out.below HWR.out) HNO.out
        have hsz : ¬ 9223372036854775807 < b.length + 1 := by have := HL.out; omega
        have hbsz : (ByteArray.mk b.toArray).size = b.length := rfl
        have hcat : (((⟨b.toArray⟩ : ByteArray) ++ ⟨#[101]⟩).toList) = b ++ [101] := by rw [ByteArray.mk_append_mk, Go.ByteArray.toList_eq]
        have htl : (ByteArray.mk (b ++ [101]).toArray).toList = b ++ [101] := Go.ByteArray.toList_eq _
        have heq : ((b ++ [101]) == (b ++ [101])) = true := by simp
        go_wp2_with (first
          | (go_at_call 16; refine hp.mono ?_; clear hp; rintro e5 w5 ⟨es5, A5, m5, c5, rfl, ho5, hm5, hb5⟩; have hsm := refSame_any ho5.ents ((HO4.out.below ((hb.out).trans (hb5.mono hb.out.size))).ents); rw [hm5, HM4.out, (entsEq_iff [] []).2 rfl] at hsm; have HM5 := Lib.hid hm5; have HO5 := Lib.hid ho5; have HB5 := Lib.hid hb5; clear ho5 hb5)
          | (go_at_call 17; refine hsm.mono ?_; clear hsm; rintro e6 w6 ⟨rfl, q6, rfl⟩; have HD6 := Lib.hid (dr_below w5 q6 (B := wr.heap.size)); have hcvo := convert_bytes (P := Tryz.prog) (src := 32) Tryz.underlying32 Tryz.underlying5 (HOS.out.below ((HB5.out.trans (dr_below w5 q6)).mono (by have := hb.out.size; omega))) 9 Tryz.underlying9; have hcvb := convert_bytes (P := Tryz.prog) (src := 32) Tryz.underlying32 Tryz.underlying5 (HBX.out.below ((HB5.out.trans (dr_below w5 q6)).mono HWR.out.size)) 9 Tryz.underlying9)
          | (go_at_call 18; refine (spoil08_any (HO5.out.below (dr_below w5 q6)) (by have h1 := HO5.out.len; have h2 := congrArg List.length HM5.out; rw [List.length_map] at h2; have := HL24.out; omega) (fun e he => by have h1 := HO5.out.slc e he; have h2 := h1.le; have h3 := h1.cmax; unfold maxLen at h3; omega)).mono ?_; rintro e7 w7 ⟨rfl, hb7⟩; have HB7 := Lib.hid hb7; clear hb7))
        exact ⟨⟨k + 1, by omega, by go_num, hb.out.trans (((HB5.out.trans (dr_below w5 q6)).trans HB7.out).mono hb.out.size)⟩, by simp [intOf]; omega⟩
      · go_wp2_with (fail)
        go_ret
        exact ⟨rfl, HW4.out.trans (hb.out.mono HW4.out.size)⟩
set_option maxRecDepth 100000 in
theorem TreeParses_walk {H : Type} {enc : TypeId × Value → H} (W : World) (base : Nat) (v0 : Value) (d0 : DataW H) (p0 : List MemPlace)
    (o0 : Value.okWide Tryz.prog W .any base 32 v0) (h0 : DataW.Trod enc Tryz.prog W 0 (fun _ => true) true 32 v0 d0 p0)
    (hsz : (DataW.weightsEach Tryz.prog [32] [d0]).all (· ≤ reachBytes) = true) (hk : Rows.uptoSmall H [d0] = true) (hL : laidMetH Tryz.prog Rows.treeParsesUptoRow.laid W) (hS : W.ShapedOpen Tryz.prog) :
    Calls Tryz.prog 4 #[v0] W fun e w' => e = .returned (.bool true) ∧ Below W.heap.size W w' := by
  have hb := Bulk.bound hk
  have b0 := Nat.le_trans (Bulk.part_le (d := d0) (l := [d0]) (by simp)) hb
  obtain ⟨A, n, c, l, rfl, hT, hn⟩ := open_text o0 h0 b0
  exact treeParses_any hT (by omega) (max_var hS) (atoi_vars (by kernel_rfl) (by kernel_rfl) hL) (pow_tab (by kernel_rfl) hL)
end Go.Proofs.YtdhlklidenfbeaaGreatDoor
