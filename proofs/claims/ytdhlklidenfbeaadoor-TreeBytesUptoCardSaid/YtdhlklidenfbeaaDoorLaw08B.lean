/- The walk of TreeBytes. -/
import Derived.Test.YtdhlklidenfbeaaDoorTreeF
import Derived.Test.YtdhlklidenfbeaaDoorCopy08
import Derived.Test.YtdhlklidenfbeaaDoorRef08C
import Derived.Test.YtdhlklidenfbeaaDoorRef08D
import Derived.Test.YtdhlklidenfbeaaDoorTab
namespace Go.Proofs.YtdhlklidenfbeaaDoor
open Go.RowKit Go.Shelf
set_option linter.unusedVariables false
set_option linter.unusedSimpArgs false

set_option maxRecDepth 100000 in
set_option maxHeartbeats 1000000 in
theorem refDigest_any {w : World} {B : Nat} {A : Option Addr} {n c : Nat} {es : List EV} (h : EntsAt w B A n c es) (hB : B ≤ w.heap.size) (hp : ∀ e ∈ es, e.path.length ≤ 1000000000) :
    Calls Tryd.prog 55 #[.slice A n c] w fun e w' => e = .returned (.string ⟨(digestB (es.map EV.ent)).toArray⟩) ∧ Below w.heap.size w w' := by
  have hby := refBytes_any h hB hp
  unfold digestB
  generalize bytesB (es.map EV.ent) = t at *
  go_enter Tryd.func55, Tryd.ntmps55
  go_wp2_with (first
    | (go_at_call 53; refine hby.mono ?_; clear hby; rintro e1 w1 ⟨A1, n1, c1, rfl, ho1, hb1⟩; have hsu := refSum_any A1 n1 c1 _ t w1 (own_slc_of ho1))
    | (go_at_call 97; refine hsu.mono ?_; clear hsu; rintro e2 w2 ⟨rfl, rfl⟩; have htx := refText_any (updAll begin64 t) w1)
    | (go_at_call 96; refine htx.mono ?_; clear htx; rintro e3 w3 ⟨rfl, rfl⟩))
  go_ret
  exact ⟨rfl, hb1⟩

/-- A byte of a row of the call's own is written over. -/
theorem own_byte_set {w : World} {base g n c : Nat} {xs : List Value} (h : w.ownsRow base 5 1 (.slice (some ⟨g, 0, none⟩) n c) n xs) {i : Nat} (hi : i < n) (u : Value) :
    (w.setCell ⟨g, i, none⟩ u).ownsRow base 5 1 (.slice (some ⟨g, 0, none⟩) n c) n (xs.set i u) ∧ (∃ v, w.cell? ⟨g, i, none⟩ = some v) ∧ w.frozen? ⟨g, i, none⟩ = false ∧ base ≤ g := by
  rcases h.2 with ⟨h1, _⟩ | ⟨g', cap, cur, e, hb, hh, hnc, hcm, hcs, ht⟩
  · cases h1
  · injection e with e1 e2 e3
    injection e1 with e1
    injection e1 with e1
    subst e1 e3
    have hB : Blk w g 5 cur := hh
    have hil : i < cur.size := by omega
    refine ⟨⟨by rw [List.length_set]; exact h.1, .inr ⟨g, c, _, rfl, hb, hB.set_ i u, hnc, hcm, by simpa using hcs, ?_⟩⟩, ⟨cur[i], by rw [hB.cell, Array.getElem?_eq_getElem hil]⟩, hB.frozen i, hb⟩
    rw [← ht]
    simp [List.take_set]

set_option maxRecDepth 100000 in
set_option maxHeartbeats 4000000 in
theorem treeBytes_any {w : World} {A : Option Addr} {n c : Nat} {es : List EV} (h : EntsAt w w.heap.size A n c es) (hn : n ≤ 10000000) (hp : ∀ e ∈ es, e.path.length ≤ 1000000000) (hd : ∀ e ∈ es, e.data.length ≤ 1000000000) (ht : TabOk w) :
    Calls Tryd.prog 11 #[.slice A n c] w fun e w' => e = .returned (.bool true) ∧ Below w.heap.size w w' := by
  have hs := shown08_any w
  have H := Lib.hid h
  have HP := Lib.hid hp
  have HD := Lib.hid hd
  have HT := Lib.hid ht
  obtain ⟨l, hl⟩ : ∃ l, l = es.map EV.ent := ⟨_, rfl⟩
  have HL := Lib.hid hl
  have HIT := Lib.hid (fun (v : World) (hv : Below w.heap.size w v) (es' : List EV) (hm : es'.map EV.ent = l) => show rightB (es'.map EV.ent) = true → ∀ e ∈ es', ItoaOk v (e.data.length : Int) from fun hr e he => by
    have h1 := (rightB_len hr).2 e.ent (List.mem_map.2 ⟨e, he, rfl⟩)
    exact (ht.below hv).itoa _ (by have : e.data.length ≤ 2048 := h1.2; omega))
  have HPE := Lib.hid (fun (es' : List EV) (hm : es'.map EV.ent = l) => show ∀ e ∈ es', e.path.length ≤ 1000000000 from fun e he => by
    have h1 : e.ent ∈ es.map EV.ent := by rw [← hl, ← hm]; exact List.mem_map.2 ⟨e, he, rfl⟩
    obtain ⟨x, hx, hxe⟩ := List.mem_map.1 h1
    have h2 := hp x hx
    have h3 : x.path = e.path := congrArg Ent.path hxe
    rw [← h3]
    exact h2)
  clear h hp hd ht hl
  go_enter Tryd.func11, Tryd.ntmps11
  go_wp2_with (first
    | (go_at_call 42; refine hs.mono ?_; clear hs; rintro e1 w1 ⟨rfl, hb1⟩; have HB1 := Lib.hid hb1; have hcp := copied08_any (H.out.below hb1) hb1.size hn HD.out; clear hb1)
    | (go_at_call 45; refine hcp.mono ?_; clear hcp; rintro e2 w2 ⟨A2, c2, es2, rfl, ho2, hm2, hb2⟩; have HB2 := Lib.hid (HB1.out.trans (hb2.mono HB1.out.size)); have HM2 := Lib.hid (hm2.trans HL.out.symm); have HE2 := Lib.hid ho2.ents; have HS2 := Lib.hid (show ∀ e ∈ es2, ∃ a, e.A = some a ∧ a.block < w2.heap.size from fun e he => by obtain ⟨g, g1, _, g3, _⟩ := ho2.data e he; exact ⟨_, g1, g3⟩); have hrt := right_any HE2.out (Nat.le_refl _) (HPE.out es2 HM2.out); rw [HM2.out] at hrt; clear ho2 hm2 hb2)
    | (go_at_call 50; refine hrt.mono ?_; clear hrt; rintro e3 w3 ⟨rfl, hb3⟩; have HB3 := Lib.hid hb3; have HW3 := Lib.hid (HB2.out.trans (hb3.mono HB2.out.size)); have hby := bytes_any (HE2.out.below hb3) hb3.size (HPE.out es2 HM2.out) HS2.out (HIT.out w3 HW3.out es2 HM2.out); rw [HM2.out] at hby; clear hb3)
    | (go_at_call 51; refine hby.mono ?_; clear hby; rintro e4 w4 ⟨A4, n4, c4, rfl, ho4, hb4⟩; have HB4 := Lib.hid hb4; have HO4 := Lib.hid ho4; have HB24 := Lib.hid (HB3.out.trans (hb4.mono HB3.out.size)); have HW4 := Lib.hid (HW3.out.trans (hb4.mono HW3.out.size)); have hdg := digest_any (HE2.out.below HB24.out) HB24.out.size (HPE.out es2 HM2.out) HS2.out (HIT.out w4 HW4.out es2 HM2.out); rw [HM2.out] at hdg; clear hb4 ho4)
    | (go_at_call 52; refine hdg.mono ?_; clear hdg; rintro e5 w5 ⟨rfl, hb5⟩; have HB5 := Lib.hid hb5; have HB25 := Lib.hid (HB24.out.trans (hb5.mono HB24.out.size)); have HW5 := Lib.hid (HW4.out.trans (hb5.mono HW4.out.size)); have hsm := refSame_any (HE2.out.below HB25.out) (H.out.below HW5.out); rw [HM2.out, ← HL.out, (entsEq_iff l l).2 rfl] at hsm; clear hb5)
    | (go_at_call 47; refine hsm.mono ?_; clear hsm; rintro e6 w6 ⟨rfl, q6, rfl⟩; have HB6 := Lib.hid (show Below w.heap.size w (w5.drewN q6) from HW5.out.trans (dr_below w5 q6)); have hrb := refBytes_any (H.out.below HB6.out) HB6.out.size HP.out; rw [← HL.out] at hrb)
    | (go_at_call 53; refine hrb.mono ?_; clear hrb; rintro e7 w7 ⟨A7, n7, c7, rfl, ho7, hb7⟩; have hcv7 := convert_bytes (P := Tryd.prog) Tryd.underlying42 Tryd.underlying5 (own_slc_of ho7) 9 Tryd.underlying9; have HB47 := Lib.hid ((HB5.out.trans (dr_below w5 q6)).trans (hb7.mono (show w4.heap.size ≤ (w5.drewN q6).heap.size from HB5.out.size))); have HO7 := Lib.hid (own_below HO4.out HB47.out); have hcv4 := convert_bytes (P := Tryd.prog) Tryd.underlying42 Tryd.underlying5 (own_slc_of HO7.out) 9 Tryd.underlying9; clear ho7 hb7))
  have HB37 := Lib.hid (HB4.out.trans (HB47.out.mono HB4.out.size))
  have hn4 : n4 ≤ 9223372036854775807 := by have h1 := (own_slc_of HO7.out).le; have h2 := (own_slc_of HO7.out).cmax; unfold maxLen at h2; omega
  clear hcv7 hcv4
  go_loopw [11] (fun i wr => ∃ k : Nat, k ≤ n4 ∧ i = .int .i64 (k : Int) ∧ Aside (∃ ys, wr.ownsRow w3.heap.size 5 1 (.slice A4 n4 c4) n4 ys) ∧ Aside (Below w3.heap.size w3 wr)) (fun i _ => n4 - (intOf i).toNat)
  case atStart => exact ⟨0, Nat.zero_le _, rfl, ⟨_, HO7.out⟩, HB37.out⟩
  case round =>
    obtain ⟨k, hk, rfl, hown, hb⟩ := hrel
    by_cases hlt : k < n4
    · obtain ⟨ys, hys⟩ := hown.out
      obtain ⟨g, hg⟩ : ∃ g, A4 = some ⟨g, 0, none⟩ := by
        rcases hys.2 with ⟨_, h0⟩ | ⟨g, cap, cur, e, _⟩
        · omega
        · injection e with e1
          exact ⟨g, e1⟩
      subst hg
      obtain ⟨hs1, ⟨v, hv⟩, hf, hgb⟩ := own_byte_set hys hlt (.int .u8 9)
      have HS1 := Lib.hid hs1
      have HBS := Lib.hid (hb.out.setCell (p := ⟨g, k, none⟩) hgb (.int .u8 9))
      clear hs1 hys
      go_wp2_with (fail)
      exact ⟨⟨k + 1, by omega, by go_num, ⟨_, HS1.out⟩, HBS.out⟩, by simp [intOf]; omega⟩
    · have HBR := Lib.hid hb.out
      have HWR := Lib.hid (HW3.out.trans (hb.out.mono HW3.out.size))
      have HW2R := Lib.hid (HB3.out.trans (hb.out.mono HB3.out.size))
      clear hown hb
      have hr8 := refRight08_any (H.out.below HWR.out) HWR.out.size HP.out
      rw [← HL.out] at hr8
      obtain ⟨tb, htb⟩ : ∃ tb, tb = bytesB l := ⟨_, rfl⟩
      obtain ⟨td, htd⟩ : ∃ td, td = digestB l := ⟨_, rfl⟩
      obtain ⟨br, hbr⟩ : ∃ br, br = rightB l := ⟨_, rfl⟩
      rw [← htb, ← htd, ← hbr]
      rw [← hbr] at hr8
      have HTB := Lib.hid htb
      have HTD := Lib.hid htd
      clear htb htd hbr
      have hbb : (tb == tb) = true := by simp
      have hdd : (td == td) = true := by simp
      have htl : (ByteArray.mk tb.toArray).toList = tb := Go.ByteArray.toList_eq _
      have htl2 : (ByteArray.mk td.toArray).toList = td := Go.ByteArray.toList_eq _
      go_wp2_with (first
        | (go_at_call 54; refine hr8.mono ?_; clear hr8; rintro e8 w8 ⟨rfl, hb8⟩; have HB8 := Lib.hid hb8; have HW8 := Lib.hid (HWR.out.trans (hb8.mono HWR.out.size)); have hrd := refDigest_any (H.out.below HW8.out) HW8.out.size HP.out; rw [← HL.out, ← HTD.out] at hrd; clear hb8)
        | (go_at_call 55; refine hrd.mono ?_; clear hrd; rintro e9 w9 ⟨rfl, hb9⟩; have HW9 := Lib.hid (HW8.out.trans (hb9.mono HW8.out.size)); have HW29 := Lib.hid (HW2R.out.trans ((HB8.out.trans (hb9.mono HB8.out.size)).mono HW2R.out.size)); have hb2 := bytes_any (HE2.out.below HW29.out) HW29.out.size (HPE.out es2 HM2.out) HS2.out (HIT.out w9 HW9.out es2 HM2.out); rw [HM2.out, ← HTB.out] at hb2; clear hb9)
        | (go_at_call 51; refine hb2.mono ?_; clear hb2; rintro e10 w10 ⟨A10, n10, c10, rfl, ho10, hb10⟩; have HB10 := Lib.hid (HW9.out.trans (hb10.mono HW9.out.size)); have hcv := convert_bytes (P := Tryd.prog) Tryd.underlying42 Tryd.underlying5 (own_slc_of ho10) 9 Tryd.underlying9; clear ho10 hb10))
      go_ret
      exact ⟨rfl, HB10.out⟩
end Go.Proofs.YtdhlklidenfbeaaDoor
