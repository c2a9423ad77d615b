/- The walk of the reference's Parse (bootjackref08). -/
import Derived.Test.YtdhlklidenfbeaaGreatDoorParseTU
namespace Go.Proofs.YtdhlklidenfbeaaGreatDoor
open Go.RowKit Go.Shelf
set_option linter.unusedVariables false
set_option linter.unusedSimpArgs false

set_option maxRecDepth 100000 in
set_option maxHeartbeats 4000000 in
theorem refParse_any {w : World} {B : Nat} {A : Option Addr} {n c : Nat} {b : Txt} (h : TextIn w B A n c b) (hB : B ≤ w.heap.size) (hn : n ≤ 2000000) :
    Calls Tryz.prog 15 #[.slice A n c] w (RefParsePost w b) := by
  have hlen := h.len
  have hcap : n ≤ c := h.slc.le
  have hc62 : c ≤ 9223372036854775807 := by have := h.slc.cmax; unfold maxLen at this; omega
  have h0 : Calls Tryz.prog 38 #[.slice A n c, .int .i64 0, .int .u8 10] w fun e w' => e = .returned (.tuple #[.string ⟨(upto 10 b).toArray⟩, .int .i64 (((upto 10 b).length + 1 : Nat) : Int)]) ∧ w' = w := by
    have := word_any h (by omega) (Nat.zero_le n) 10
    unfold WordPost at this
    rw [List.drop_zero, Nat.zero_add] at this
    exact this
  have HW0 := Lib.hid h0
  have H := Lib.hid h
  have HB := Lib.hid hB
  have HL := Lib.hid hlen
  have HU := Lib.hid (upto_len 10 b)
  have HST := Lib.hid (RefOk.start (w := w) (base := w.heap.size) (b := b))
  clear h0 h hB hlen
  go_enter Tryz.func15, Tryz.ntmps15
  go_wp2_with (go_at_call 38; refine HW0.out.mono ?_; clear HW0; rintro e w1 ⟨rfl, hw1⟩; obtain rfl := hw1.symm; clear hw1)
  go_loopw [4, 6] (fun out at_ wr => ∃ (p m : Nat) (A1 : Option Addr) (c1 : Nat) (es : List EV), p ≤ n + 1 ∧ at_ = .int .i64 (p : Int) ∧ out = .slice A1 m c1 ∧ Aside (RefOk wr w.heap.size b es A1 m c1 p) ∧ Aside (Below w.heap.size w wr)) (fun _ at_ _ => n + 1 - (intOf at_).toNat)
  case atStart => exact ⟨(upto 10 b).length + 1, 0, none, 0, [], by have := HU.out; have := HL.out; omega, rfl, rfl, HST.out, Below.refl _ _⟩
  case round =>
    obtain ⟨p, m, A1, c1, es, hp, rfl, rfl, hok, hb⟩ := hrel
    have hok := hok.out
    have hb := hb.out
    have hll := HL.out
    by_cases hpn : p < n
    case neg =>
      have HX := Lib.hid (hok.exit (.inl (by omega)))
      have hown := hok.own
      have hpth := hok.paths
      have hsom := hok.some_
      have HSO := Lib.hid (show rightB (es.map EV.ent) = false → bytesB (es.map EV.ent) ≠ b from fun hr e => by
        have h1 : b = [] := by rw [← e]; unfold bytesB; rw [if_neg (by rw [hr]; decide)]
        rcases Nat.eq_zero_or_pos m with h0 | h0
        · have h2 : es = [] := List.eq_nil_of_length_eq_zero (by have := hown.len; omega)
          rw [h2] at hr
          exact absurd hr (by decide)
        · exact hsom h0 h1)
      have HBY := Lib.hid (fun (W : World) (hW : Below wr.heap.size wr W) => refBytes_any (w := W) ((hown.below hW).ents) (Nat.le_refl _) (fun e he => by have := hpth e he; omega))
      have HO := Lib.hid hown
      have HB1 := Lib.hid hb
      have HCB := Lib.hid (fun (W : World) (hW : Below wr.heap.size wr W) => convert_bytes (P := Tryz.prog) (src := 32) Tryz.underlying32 Tryz.underlying5 ((H.out.below ((hb.trans (hW.mono hb.size)).mono HB.out)).slc) 9 Tryz.underlying9)
      have hdw : Below wr.heap.size wr wr.drew := (Below.refl wr.heap.size wr).drew
      have HDW := Lib.hid hdw
      have hcb0 := HCB.out _ (Below.refl _ wr)
      have hcb1 := HCB.out _ hdw
      have HRE := Lib.hid (Below.refl wr.heap.size wr)
      have tlb : (ByteArray.mk b.toArray).toList = b := Go.ByteArray.toList_eq _
      have tlx : (ByteArray.mk (bytesB (es.map EV.ent)).toArray).toList = bytesB (es.map EV.ent) := Go.ByteArray.toList_eq _
      clear hok hown hpth hsom hb hdw hll
      have HRT := Lib.hid (show (bytesB (es.map EV.ent) == b) = true → rightB (es.map EV.ent) = true from fun e => by
        cases hr : rightB (es.map EV.ent) with
        | true => rfl
        | false => exact absurd (by simpa using e) (HSO.out hr))
      cases heq : (bytesB (es.map EV.ent) == b) with
      | false =>
        have HNE := Lib.hid heq
        generalize htb : bytesB (es.map EV.ent) = tb at *
        have HTB := Lib.hid htb
        clear htb
        go_wp2_with (fail)
        go_region_held (fun W' => (convert 32 9 (.slice A n c)).run Tryz.prog W' = .ok (.string ⟨b.toArray⟩) W') (first | exact hcb0 | exact hcb1 | exact HCB.out _ HW3.out) ((go_at_call 39; refine (HBY.out _ (by first | exact HRE.out | exact HDW.out)).mono ?_; clear HBY; rintro e w3 ⟨A3, n3, c3, rfl, hO3, hb3⟩; have HW3 := Lib.hid (show Below wr.heap.size wr w3 from (by first | exact hb3 | exact HDW.out.trans (hb3.mono HDW.out.size))); have hcx := convert_bytes (P := Tryz.prog) (src := 32) Tryz.underlying32 Tryz.underlying5 (own_slc_of hO3) 9 Tryz.underlying9; clear hO3 hb3))
        all_goals go_wp2_with (fail)
        all_goals go_ret2
        all_goals exact ⟨HB1.out.trans (HW3.out.mono HB1.out.size), .inr ⟨rfl, fun l hl e => by have := HNE.out; rw [← HTB.out, HX.out l hl e, e] at this; simp at this⟩⟩
      | true =>
        have HR := Lib.hid (HRT.out heq)
        have HNE := Lib.hid heq
        generalize htb : bytesB (es.map EV.ent) = tb at *
        have HTB := Lib.hid htb
        clear htb
        go_wp2_with (fail)
        go_region_held (fun W' => (convert 32 9 (.slice A n c)).run Tryz.prog W' = .ok (.string ⟨b.toArray⟩) W') (first | exact hcb0 | exact hcb1 | exact HCB.out _ HW3.out) ((go_at_call 39; refine (HBY.out _ (by first | exact HRE.out | exact HDW.out)).mono ?_; clear HBY; rintro e w3 ⟨A3, n3, c3, rfl, hO3, hb3⟩; have HW3 := Lib.hid (show Below wr.heap.size wr w3 from (by first | exact hb3 | exact HDW.out.trans (hb3.mono HDW.out.size))); have hcx := convert_bytes (P := Tryz.prog) (src := 32) Tryz.underlying32 Tryz.underlying5 (own_slc_of hO3) 9 Tryz.underlying9; clear hO3 hb3))
        all_goals go_wp2_with (fail)
        all_goals go_ret2
        all_goals exact ⟨HB1.out.trans (HW3.out.mono HB1.out.size), .inl ⟨es, A1, m, c1, rfl, HO.out.below HW3.out, HR.out, by have := HNE.out; rw [HTB.out]; simpa using this⟩⟩
    case pos =>
    by_cases hm25 : m < 25
    case neg =>
      have HX := Lib.hid (hok.exit (.inr (.inl (by omega))))
      have hown := hok.own
      have hpth := hok.paths
      have hsom := hok.some_
      have HSO := Lib.hid (show rightB (es.map EV.ent) = false → bytesB (es.map EV.ent) ≠ b from fun hr e => by
        have h1 : b = [] := by rw [← e]; unfold bytesB; rw [if_neg (by rw [hr]; decide)]
        rcases Nat.eq_zero_or_pos m with h0 | h0
        · have h2 : es = [] := List.eq_nil_of_length_eq_zero (by have := hown.len; omega)
          rw [h2] at hr
          exact absurd hr (by decide)
        · exact hsom h0 h1)
      have HBY := Lib.hid (fun (W : World) (hW : Below wr.heap.size wr W) => refBytes_any (w := W) ((hown.below hW).ents) (Nat.le_refl _) (fun e he => by have := hpth e he; omega))
      have HO := Lib.hid hown
      have HB1 := Lib.hid hb
      have HCB := Lib.hid (fun (W : World) (hW : Below wr.heap.size wr W) => convert_bytes (P := Tryz.prog) (src := 32) Tryz.underlying32 Tryz.underlying5 ((H.out.below ((hb.trans (hW.mono hb.size)).mono HB.out)).slc) 9 Tryz.underlying9)
      have hdw : Below wr.heap.size wr wr.drew := (Below.refl wr.heap.size wr).drew
      have HDW := Lib.hid hdw
      have hcb0 := HCB.out _ (Below.refl _ wr)
      have hcb1 := HCB.out _ hdw
      have HRE := Lib.hid (Below.refl wr.heap.size wr)
      have tlb : (ByteArray.mk b.toArray).toList = b := Go.ByteArray.toList_eq _
      have tlx : (ByteArray.mk (bytesB (es.map EV.ent)).toArray).toList = bytesB (es.map EV.ent) := Go.ByteArray.toList_eq _
      clear hok hown hpth hsom hb hdw hll
      have HRT := Lib.hid (show (bytesB (es.map EV.ent) == b) = true → rightB (es.map EV.ent) = true from fun e => by
        cases hr : rightB (es.map EV.ent) with
        | true => rfl
        | false => exact absurd (by simpa using e) (HSO.out hr))
      cases heq : (bytesB (es.map EV.ent) == b) with
      | false =>
        have HNE := Lib.hid heq
        generalize htb : bytesB (es.map EV.ent) = tb at *
        have HTB := Lib.hid htb
        clear htb
        go_wp2_with (fail)
        go_region_held (fun W' => (convert 32 9 (.slice A n c)).run Tryz.prog W' = .ok (.string ⟨b.toArray⟩) W') (first | exact hcb0 | exact hcb1 | exact HCB.out _ HW3.out) ((go_at_call 39; refine (HBY.out _ (by first | exact HRE.out | exact HDW.out)).mono ?_; clear HBY; rintro e w3 ⟨A3, n3, c3, rfl, hO3, hb3⟩; have HW3 := Lib.hid (show Below wr.heap.size wr w3 from (by first | exact hb3 | exact HDW.out.trans (hb3.mono HDW.out.size))); have hcx := convert_bytes (P := Tryz.prog) (src := 32) Tryz.underlying32 Tryz.underlying5 (own_slc_of hO3) 9 Tryz.underlying9; clear hO3 hb3))
        all_goals go_wp2_with (fail)
        all_goals go_ret2
        all_goals exact ⟨HB1.out.trans (HW3.out.mono HB1.out.size), .inr ⟨rfl, fun l hl e => by have := HNE.out; rw [← HTB.out, HX.out l hl e, e] at this; simp at this⟩⟩
      | true =>
        have HR := Lib.hid (HRT.out heq)
        have HNE := Lib.hid heq
        generalize htb : bytesB (es.map EV.ent) = tb at *
        have HTB := Lib.hid htb
        clear htb
        go_wp2_with (fail)
        go_region_held (fun W' => (convert 32 9 (.slice A n c)).run Tryz.prog W' = .ok (.string ⟨b.toArray⟩) W') (first | exact hcb0 | exact hcb1 | exact HCB.out _ HW3.out) ((go_at_call 39; refine (HBY.out _ (by first | exact HRE.out | exact HDW.out)).mono ?_; clear HBY; rintro e w3 ⟨A3, n3, c3, rfl, hO3, hb3⟩; have HW3 := Lib.hid (show Below wr.heap.size wr w3 from (by first | exact hb3 | exact HDW.out.trans (hb3.mono HDW.out.size))); have hcx := convert_bytes (P := Tryz.prog) (src := 32) Tryz.underlying32 Tryz.underlying5 (own_slc_of hO3) 9 Tryz.underlying9; clear hO3 hb3))
        all_goals go_wp2_with (fail)
        all_goals go_ret2
        all_goals exact ⟨HB1.out.trans (HW3.out.mono HB1.out.size), .inl ⟨es, A1, m, c1, rfl, HO.out.below HW3.out, HR.out, by have := HNE.out; rw [HTB.out]; simpa using this⟩⟩
    case pos =>
    obtain ⟨b0, off, rfl, _, _, _⟩ := text_byte H.out hpn
    have hpc : ¬ p = c := by omega
    have hcp : ¬ c = p := by omega
    have hT := H.out.below (hb.mono HB.out)
    have hcv := conv_cut hT (Nat.le_of_lt hpn) (Nat.le_refl n) hcp
    rw [show (b.drop p).take (n - p) = b.drop p from List.take_of_length_le (by simp; omega)] at hcv
    by_cases hend : b.drop p = [101, 110, 100, 10]
    case pos =>
      rw [hend] at hcv
      have HX := Lib.hid (hok.exit (.inr (.inr hend)))
      have hown := hok.own
      have hpth := hok.paths
      have hsom := hok.some_
      have HSO := Lib.hid (show rightB (es.map EV.ent) = false → bytesB (es.map EV.ent) ≠ b from fun hr e => by
        have h1 : b = [] := by rw [← e]; unfold bytesB; rw [if_neg (by rw [hr]; decide)]
        rcases Nat.eq_zero_or_pos m with h0 | h0
        · have h2 : es = [] := List.eq_nil_of_length_eq_zero (by have := hown.len; omega)
          rw [h2] at hr
          exact absurd hr (by decide)
        · exact hsom h0 h1)
      have HBY := Lib.hid (fun (W : World) (hW : Below wr.heap.size wr W) => refBytes_any (w := W) ((hown.below hW).ents) (Nat.le_refl _) (fun e he => by have := hpth e he; omega))
      have HO := Lib.hid hown
      have HB1 := Lib.hid hb
      have HCB := Lib.hid (fun (W : World) (hW : Below wr.heap.size wr W) => convert_bytes (P := Tryz.prog) (src := 32) Tryz.underlying32 Tryz.underlying5 ((H.out.below ((hb.trans (hW.mono hb.size)).mono HB.out)).slc) 9 Tryz.underlying9)
      have hdw : Below wr.heap.size wr wr.drew := (Below.refl wr.heap.size wr).drew
      have HDW := Lib.hid hdw
      have hcb0 := HCB.out _ (Below.refl _ wr)
      have hcb1 := HCB.out _ hdw
      have HRE := Lib.hid (Below.refl wr.heap.size wr)
      have tlb : (ByteArray.mk b.toArray).toList = b := Go.ByteArray.toList_eq _
      have tlx : (ByteArray.mk (bytesB (es.map EV.ent)).toArray).toList = bytesB (es.map EV.ent) := Go.ByteArray.toList_eq _
      clear hok hown hpth hsom hb hdw hll hT hend
      have HRT := Lib.hid (show (bytesB (es.map EV.ent) == b) = true → rightB (es.map EV.ent) = true from fun e => by
        cases hr : rightB (es.map EV.ent) with
        | true => rfl
        | false => exact absurd (by simpa using e) (HSO.out hr))
      cases heq : (bytesB (es.map EV.ent) == b) with
      | false =>
        have HNE := Lib.hid heq
        generalize htb : bytesB (es.map EV.ent) = tb at *
        have HTB := Lib.hid htb
        clear htb
        go_wp2_with (fail)
        go_region_held (fun W' => (convert 32 9 (.slice (some ⟨b0, off, none⟩) n c)).run Tryz.prog W' = .ok (.string ⟨b.toArray⟩) W') (first | exact hcb0 | exact hcb1 | exact HCB.out _ HW3.out) ((go_at_call 39; refine (HBY.out _ (by first | exact HRE.out | exact HDW.out)).mono ?_; clear HBY; rintro e w3 ⟨A3, n3, c3, rfl, hO3, hb3⟩; have HW3 := Lib.hid (show Below wr.heap.size wr w3 from (by first | exact hb3 | exact HDW.out.trans (hb3.mono HDW.out.size))); have hcx := convert_bytes (P := Tryz.prog) (src := 32) Tryz.underlying32 Tryz.underlying5 (own_slc_of hO3) 9 Tryz.underlying9; clear hO3 hb3))
        all_goals go_wp2_with (fail)
        all_goals go_ret2
        all_goals exact ⟨HB1.out.trans (HW3.out.mono HB1.out.size), .inr ⟨rfl, fun l hl e => by have := HNE.out; rw [← HTB.out, HX.out l hl e, e] at this; simp at this⟩⟩
      | true =>
        have HR := Lib.hid (HRT.out heq)
        have HNE := Lib.hid heq
        generalize htb : bytesB (es.map EV.ent) = tb at *
        have HTB := Lib.hid htb
        clear htb
        go_wp2_with (fail)
        go_region_held (fun W' => (convert 32 9 (.slice (some ⟨b0, off, none⟩) n c)).run Tryz.prog W' = .ok (.string ⟨b.toArray⟩) W') (first | exact hcb0 | exact hcb1 | exact HCB.out _ HW3.out) ((go_at_call 39; refine (HBY.out _ (by first | exact HRE.out | exact HDW.out)).mono ?_; clear HBY; rintro e w3 ⟨A3, n3, c3, rfl, hO3, hb3⟩; have HW3 := Lib.hid (show Below wr.heap.size wr w3 from (by first | exact hb3 | exact HDW.out.trans (hb3.mono HDW.out.size))); have hcx := convert_bytes (P := Tryz.prog) (src := 32) Tryz.underlying32 Tryz.underlying5 (own_slc_of hO3) 9 Tryz.underlying9; clear hO3 hb3))
        all_goals go_wp2_with (fail)
        all_goals go_ret2
        all_goals exact ⟨HB1.out.trans (HW3.out.mono HB1.out.size), .inl ⟨es, A1, m, c1, rfl, HO.out.below HW3.out, HR.out, by have := HNE.out; rw [HTB.out]; simpa using this⟩⟩
    case neg =>
      have hne : (b.drop p == [101, 110, 100, 10]) = false := by simpa using hend
      have tls : (ByteArray.mk (b.drop p).toArray).toList = b.drop p := Go.ByteArray.toList_eq _
      obtain ⟨d1, p1, d2, p2, p3, l1, l2, l3, l4, l5, l6, hm1, hm2, hp3, w1, w2, w3⟩ := ref_words hT hn hpn
      have HW1 := Lib.hid w1
      have HW2 := Lib.hid w2
      have HW3 := Lib.hid w3
      have HP3 := Lib.hid hp3
      have HOK := Lib.hid hok
      have HB1 := Lib.hid hb
      have HEND := Lib.hid hend
      clear w1 w2 w3 hp3 hok hb hend hT hll
      obtain ⟨K, hK⟩ : ∃ K, K = kindQ (b.drop p) := ⟨_, rfl⟩
      obtain ⟨P, hP⟩ : ∃ P, P = pathQ (b.drop p) := ⟨_, rfl⟩
      obtain ⟨Z, hZ⟩ : ∃ Z, Z = sizeQ (b.drop p) := ⟨_, rfl⟩
      rw [← hK] at HW1
      rw [← hP] at HW2
      rw [← hZ] at HW3
      have HK := Lib.hid hK
      have HP := Lib.hid hP
      have HZ := Lib.hid hZ
      have HZL := Lib.hid (show Z.length ≤ n by rw [hZ]; have := upto_len 10 ((b.drop p).drop (n2Q (b.drop p))); unfold sizeQ; rw [List.length_drop, List.length_drop] at this; have := HL.out; omega)
      have HPL := Lib.hid (show P.length ≤ n by rw [hP]; have := upto_len 32 ((b.drop p).drop (n1Q (b.drop p))); unfold pathQ; rw [List.length_drop, List.length_drop] at this; have := HL.out; omega)
      clear hK hP hZ
      generalize hs : b.drop p = s at *
      have HS := Lib.hid hs
      clear hs
      have zsz : (ByteArray.mk Z.toArray).size = Z.length := rfl
      go_wp2_with (first
        | (go_at_call 38; refine HW1.out.mono ?_; clear HW1; rintro e w1 ⟨rfl, hw1⟩; obtain rfl := hw1.symm; clear hw1)
        | (go_at_call 38; refine HW2.out.mono ?_; clear HW2; rintro e w1 ⟨rfl, hw1⟩; obtain rfl := hw1.symm; clear hw1)
        | (go_at_call 38; refine HW3.out.mono ?_; clear HW3; rintro e w1 ⟨rfl, hw1⟩; obtain rfl := hw1.symm; clear hw1))
      go_loopw [11, 12] (fun v i wq => ∃ q : Nat, q ≤ Z.length ∧ q ≤ 5 ∧ i = .int .i64 (q : Int) ∧ v = .int .i64 ((numT Z q : Nat) : Int) ∧ wq = wr) (fun _ i _ => 5 - (intOf i).toNat)
      case atStart => exact ⟨0, Nat.zero_le _, by decide, rfl, rfl, rfl⟩
      case round =>
        obtain ⟨q, hq1, hq5, rfl, rfl, hwq⟩ := hrel
        obtain rfl := hwq.symm
        clear hwq
        have hns := numT_small Z q hq1 hq5
        by_cases hz1 : q < Z.length
        · by_cases hz5 : q < 5
          · have hzs : q < (ByteArray.mk Z.toArray).size := hz1
            have htm := byte_rem Z q hz1 hzs
            have HNS := Lib.hid (numT_succ Z q hz1)
            have hmm : Z[q].toNat % 16 ≤ 15 := by omega
            generalize numT Z q = v at *
            generalize Z[q].toNat % 16 = mm at *
            go_wp2_with (fail)
            exact ⟨⟨q + 1, by omega, by omega, by go_num, by rw [HNS.out]; go_num, by first | rfl | trivial⟩, by simp [intOf]; omega⟩
          · have hz4 : (4 : Int) < (Z.length : Int) := by omega
            have HBAD := Lib.hid (HOK.out.bad (by rw [HS.out]; exact HEND.out) (by rw [HS.out]; unfold entryQ; rw [← HZ.out, if_pos (.inl (by omega))]))
            generalize numT Z q = v at *
            go_wp2_with (fail)
            go_ret2
            exact ⟨HB1.out, .inr ⟨rfl, HBAD.out⟩⟩
        · have hqz : q = Z.length := by omega
          have HNQ := Lib.hid (show numT Z q = numQ Z from numT_all Z q (by omega))
          generalize numT Z q = v at *
          by_cases hz4 : 4 < Z.length
          · have HBAD := Lib.hid (HOK.out.bad (by rw [HS.out]; exact HEND.out) (by rw [HS.out]; unfold entryQ; rw [← HZ.out, if_pos (.inl hz4)]))
            go_wp2_with (fail)
            go_ret2
            exact ⟨HB1.out, .inr ⟨rfl, HBAD.out⟩⟩
          · have HSL := Lib.hid (show s.length = n - p by rw [← HS.out, List.length_drop, HL.out])
            by_cases h3 : n < p3
            · have HBAD := Lib.hid (HOK.out.bad (by rw [HS.out]; exact HEND.out) (by rw [HS.out]; unfold entryQ; rw [if_pos (.inr (.inl (by have := HSL.out; have := HP3.out; omega)))]))
              go_wp2_with (fail)
              go_ret2
              exact ⟨HB1.out, .inr ⟨rfl, HBAD.out⟩⟩
            · by_cases h4 : n - p3 < v
              · have HBAD := Lib.hid (HOK.out.bad (by rw [HS.out]; exact HEND.out) (by rw [HS.out]; unfold entryQ; rw [← HZ.out, ← HNQ.out, if_pos (.inr (.inr (by have := HSL.out; have := HP3.out; omega)))]))
                have h4' : (n : Int) - (p3 : Int) < (v : Int) := by omega
                go_wp2_with (fail)
                go_ret2
                exact ⟨HB1.out, .inr ⟨rfl, HBAD.out⟩⟩
              · have h4' : ¬ (n : Int) - (p3 : Int) < (v : Int) := by omega
                obtain ⟨q3, hq3⟩ : ∃ q3, q3 = p3 + v := ⟨_, rfl⟩
                have hq3i : (p3 : Int) + (v : Int) = (q3 : Int) := by omega
                have hq3n : q3 ≤ n := by omega
                have hpq : p3 ≤ q3 := by omega
                have HQ3 := Lib.hid (show p + (n3Q s + numQ Z + 1) = q3 + 1 by rw [hq3, ← HNQ.out]; have := HP3.out; omega)
                have HEQ := Lib.hid (show ∀ k : Int, (if K = [108] then (3 : Int) else 1) = k → entryQ s = some ((⟨P, k, (b.drop p3).take (q3 - p3)⟩ : Ent), n3Q s + numQ Z + 1) from fun k hk => by
                  have e3 : b.drop p3 = s.drop (n3Q s) := by rw [← HS.out, List.drop_drop, HP3.out, HS.out]
                  unfold entryQ
                  rw [← HZ.out, ← HP.out, ← HK.out, hk, e3, ← HNQ.out, if_neg (by have := HSL.out; have := HP3.out; omega), show q3 - p3 = v by omega])
                have HQE := Lib.hid hq3
                clear hq3
                by_cases hp3c : p3 = c
                · subst hp3c
                  have hp3c' : p3 = p3 := rfl
                  have hA2 : ∃ A2, A2 = some ⟨b0, off, none⟩ ∧ TextIn wr B A2 (q3 - p3) (p3 - p3) ((b.drop p3).take (q3 - p3)) := by
                    obtain ⟨A2, e2, h2⟩ := (H.out.below (HB1.out.mono HB.out)).cut (show p3 ≤ q3 by omega) hq3n
                    refine ⟨A2, ?_, h2⟩
                    unfold Lib.fromV at e2
                    injection e2 with e2
                    rw [← e2]
                    rw [if_pos hp3c']
                  obtain ⟨_, rfl, hcut⟩ := hA2
                  obtain ⟨g, c4, w3, D⟩ := ap_data hcut (Nat.le_trans HB.out HB1.out.size) (Nat.le_refl _) (by omega) (x := wr.heap.size) ((Below.refl _ wr).alloc (Nat.le_refl _) (.cells #[] 5)) (heap_alloc_new wr _) (Nat.le_refl _)
                  rw [List.take_of_length_le (show ((b.drop p3).take (q3 - p3)).length ≤ q3 - p3 by rw [List.length_take]; omega)] at D
                  have HR3 := Lib.hid D.r
                  cases hkl : (K == [108]) with
                  | false =>
                    obtain ⟨A', c', w6, hrun, ho6, hb6⟩ := ref_put (V := w3.alloc (.cells #[.string ⟨P.toArray⟩, .int .i64 1, .slice (some ⟨g, 0, none⟩) (q3 - p3) c4] 73)) HOK.out.own HB1.out D (by simp) ((Below.refl _ w3).alloc (Nat.le_refl _) _) (by omega) P 1
                    have HRUN := Lib.hid hrun
                    have HQ := Lib.hid (HOK.out.next (by rw [HS.out]; exact HEND.out) hm25 (by rw [HL.out]; exact hpn) (by rw [HL.out]; exact hn) (by rw [HS.out]; exact HEQ.out 1 (by rw [if_neg (by simpa using hkl)])) ho6 (by have := HPL.out; simp only; omega))
                    rw [HQ3.out] at HQ
                    have HB6 := Lib.hid hb6
                    clear D hrun ho6 hb6 hcut
                    go_wp2_with (first
                      | (at_builtin; refine wpList_append_run rfl _ _ _ rfl rfl rfl HR3.out ?_; clear HR3)
                      | (at_builtin; refine wpList_append_run rfl _ _ _ rfl rfl rfl HRUN.out ?_; clear HRUN))
                    exact ⟨⟨q3 + 1, m + 1, A', c', _, by omega, rfl, rfl, HQ.out, HB6.out⟩, by simp [intOf]; have := HP3.out; have := HQE.out; omega⟩
                  | true =>
                    obtain ⟨A', c', w6, hrun, ho6, hb6⟩ := ref_put (V := w3.alloc (.cells #[.string ⟨P.toArray⟩, .int .i64 3, .slice (some ⟨g, 0, none⟩) (q3 - p3) c4] 73)) HOK.out.own HB1.out D (by simp) ((Below.refl _ w3).alloc (Nat.le_refl _) _) (by omega) P 3
                    have HRUN := Lib.hid hrun
                    have HQ := Lib.hid (HOK.out.next (by rw [HS.out]; exact HEND.out) hm25 (by rw [HL.out]; exact hpn) (by rw [HL.out]; exact hn) (by rw [HS.out]; exact HEQ.out 3 (by rw [if_pos (by simpa using hkl)])) ho6 (by have := HPL.out; simp only; omega))
                    rw [HQ3.out] at HQ
                    have HB6 := Lib.hid hb6
                    clear D hrun ho6 hb6 hcut
                    go_wp2_with (first
                      | (at_builtin; refine wpList_append_run rfl _ _ _ rfl rfl rfl HR3.out ?_; clear HR3)
                      | (at_builtin; refine wpList_append_run rfl _ _ _ rfl rfl rfl HRUN.out ?_; clear HRUN))
                    exact ⟨⟨q3 + 1, m + 1, A', c', _, by omega, rfl, rfl, HQ.out, HB6.out⟩, by simp [intOf]; have := HP3.out; have := HQE.out; omega⟩
                · have hp3c' : ¬ c = p3 := fun e => hp3c e.symm
                  have hA2 : ∃ A2, A2 = some ⟨b0, off + p3, none⟩ ∧ TextIn wr B A2 (q3 - p3) (c - p3) ((b.drop p3).take (q3 - p3)) := by
                    obtain ⟨A2, e2, h2⟩ := (H.out.below (HB1.out.mono HB.out)).cut (show p3 ≤ q3 by omega) hq3n
                    refine ⟨A2, ?_, h2⟩
                    unfold Lib.fromV at e2
                    injection e2 with e2
                    rw [← e2]
                    rw [if_neg hp3c', Option.map_some, addr_of_add]
                  obtain ⟨_, rfl, hcut⟩ := hA2
                  obtain ⟨g, c4, w3, D⟩ := ap_data hcut (Nat.le_trans HB.out HB1.out.size) (Nat.le_refl _) (by omega) (x := wr.heap.size) ((Below.refl _ wr).alloc (Nat.le_refl _) (.cells #[] 5)) (heap_alloc_new wr _) (Nat.le_refl _)
                  rw [List.take_of_length_le (show ((b.drop p3).take (q3 - p3)).length ≤ q3 - p3 by rw [List.length_take]; omega)] at D
                  have HR3 := Lib.hid D.r
                  cases hkl : (K == [108]) with
                  | false =>
                    obtain ⟨A', c', w6, hrun, ho6, hb6⟩ := ref_put (V := w3.alloc (.cells #[.string ⟨P.toArray⟩, .int .i64 1, .slice (some ⟨g, 0, none⟩) (q3 - p3) c4] 73)) HOK.out.own HB1.out D (by simp) ((Below.refl _ w3).alloc (Nat.le_refl _) _) (by omega) P 1
                    have HRUN := Lib.hid hrun
                    have HQ := Lib.hid (HOK.out.next (by rw [HS.out]; exact HEND.out) hm25 (by rw [HL.out]; exact hpn) (by rw [HL.out]; exact hn) (by rw [HS.out]; exact HEQ.out 1 (by rw [if_neg (by simpa using hkl)])) ho6 (by have := HPL.out; simp only; omega))
                    rw [HQ3.out] at HQ
                    have HB6 := Lib.hid hb6
                    clear D hrun ho6 hb6 hcut
                    go_wp2_with (first
                      | (at_builtin; refine wpList_append_run rfl _ _ _ rfl rfl rfl HR3.out ?_; clear HR3)
                      | (at_builtin; refine wpList_append_run rfl _ _ _ rfl rfl rfl HRUN.out ?_; clear HRUN))
                    exact ⟨⟨q3 + 1, m + 1, A', c', _, by omega, rfl, rfl, HQ.out, HB6.out⟩, by simp [intOf]; have := HP3.out; have := HQE.out; omega⟩
                  | true =>
                    obtain ⟨A', c', w6, hrun, ho6, hb6⟩ := ref_put (V := w3.alloc (.cells #[.string ⟨P.toArray⟩, .int .i64 3, .slice (some ⟨g, 0, none⟩) (q3 - p3) c4] 73)) HOK.out.own HB1.out D (by simp) ((Below.refl _ w3).alloc (Nat.le_refl _) _) (by omega) P 3
                    have HRUN := Lib.hid hrun
                    have HQ := Lib.hid (HOK.out.next (by rw [HS.out]; exact HEND.out) hm25 (by rw [HL.out]; exact hpn) (by rw [HL.out]; exact hn) (by rw [HS.out]; exact HEQ.out 3 (by rw [if_pos (by simpa using hkl)])) ho6 (by have := HPL.out; simp only; omega))
                    rw [HQ3.out] at HQ
                    have HB6 := Lib.hid hb6
                    clear D hrun ho6 hb6 hcut
                    go_wp2_with (first
                      | (at_builtin; refine wpList_append_run rfl _ _ _ rfl rfl rfl HR3.out ?_; clear HR3)
                      | (at_builtin; refine wpList_append_run rfl _ _ _ rfl rfl rfl HRUN.out ?_; clear HRUN))
                    exact ⟨⟨q3 + 1, m + 1, A', c', _, by omega, rfl, rfl, HQ.out, HB6.out⟩, by simp [intOf]; have := HP3.out; have := HQE.out; omega⟩
end Go.Proofs.YtdhlklidenfbeaaGreatDoor
