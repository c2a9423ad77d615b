/- The reference's decimal and Text (bootjackref22). -/
import Derived.Test.YtdhlklidenfbeaaGreatDoorBootW
import Derived.Test.YtdhlklidenfbeaaGreatDoorRef22
namespace Go.Proofs.YtdhlklidenfbeaaGreatDoor
open Go.RowKit Go.Shelf
set_option linter.unusedVariables false
set_option linter.unusedSimpArgs false

theorem bsz (b : ByteArray) : b.size = b.data.toList.length := rfl
theorem d22_step (m : Nat) (h : ¬ m < 10) : Lib.decDigits m = Lib.decDigits (m / 10) ++ [UInt8.ofNat (48 + m % 10)] := by
  rw [Lib.decDigits, dif_neg h]
theorem d22_one (m : Nat) (h : m < 10) : Lib.decDigits m = [UInt8.ofNat (48 + m % 10)] := by
  rw [Lib.decDigits, dif_pos h, Nat.mod_eq_of_lt h]
theorem d22_itoa (n : Nat) : Lib.itoa (n : Int) = Lib.decDigits n := by
  unfold Lib.itoa
  rw [if_neg (by omega), Int.toNat_natCast]
theorem d22_byte (m : Nat) : ((UInt8.ofNat (48 + m % 10)).toNat : Int) = 48 + (m : Int) % 10 := by
  rw [UInt8.toNat_ofNat_of_lt' (by have := Nat.mod_lt m (show 0 < 10 by decide); show 48 + m % 10 < 2 ^ 8; omega)]
  omega
/-- The digits ahead of the last. -/
def preD (m : Nat) : Txt := if m < 10 then [] else Lib.decDigits (m / 10)
theorem preD_all (m : Nat) : Lib.decDigits m = preD m ++ [UInt8.ofNat (48 + m % 10)] := by
  unfold preD
  by_cases h : m < 10
  · rw [if_pos h, d22_one m h]; rfl
  · rw [if_neg h]; exact d22_step m h
set_option maxRecDepth 100000 in
set_option maxHeartbeats 1000000 in
theorem decimal22_any (n : Nat) (w : World) (hn : n < 1000000) :
    Calls Tryz.prog 33 #[.int .i64 (n : Int)] w fun e w' => e = .returned (.string ⟨(Lib.itoa (n : Int)).toArray⟩) ∧ Below w.heap.size w w' := by
  have HI := Lib.hid (d22_itoa n)
  have hlen : (Lib.decDigits n).length ≤ 1000 := by have := digits_short 5 n (by omega); omega
  have hcv0 := convert_bytes (P := Tryz.prog) Tryz.underlying32 Tryz.underlying5 (l := [UInt8.ofNat (48 + n % 10)]) (slc_new w 5 (0, 0) #[.int .u8 ((UInt8.ofNat (48 + n % 10)).toNat : Int)] (sz := 1) (n := 1) (c := 1) rfl (Nat.le_refl _) (by decide)) 9 Tryz.underlying9
  rw [d22_byte] at hcv0
  have HB0 := Lib.hid ((Below.refl w.heap.size w).alloc (Nat.le_refl _) (.cells #[.int .u8 (48 + (n : Int) % 10)] 5))
  have HP0 := Lib.hid (preD_all n)
  generalize UInt8.ofNat (48 + n % 10) = cb0 at *
  go_enter Tryz.func33, Tryz.ntmps33
  go_wp2_with (fail)
  clear hcv0
  go_loopw [0, 3] (fun v s wr => ∃ (m : Nat) (t : Txt), m < 1000000 ∧ v = .int .i64 (m : Int) ∧ s = .string ⟨t.toArray⟩ ∧ Aside (Lib.decDigits n = preD m ++ t) ∧ Aside (Below w.heap.size w wr)) (fun v _ _ => (intOf v).toNat)
  case atStart => exact ⟨n, [cb0], hn, rfl, rfl, HP0.out, HB0.out⟩
  case round =>
    obtain ⟨m, t, hm, rfl, rfl, hd, hb⟩ := hrel
    have htl : t.length ≤ 1000 := by have := congrArg List.length hd.out; rw [List.length_append] at this; omega
    by_cases hlt : m < 10
    · have hgt : ¬ (9 : Int) < (m : Int) := by omega
      have HX := Lib.hid (show Lib.itoa (n : Int) = t by rw [HI.out, hd.out]; unfold preD; rw [if_pos hlt]; rfl)
      clear hd
      go_wp2_with (fail)
      go_ret
      exact ⟨by rw [HX.out]; rfl, hb.out⟩
    · have hgt : (9 : Int) < (m : Int) := by omega
      obtain ⟨q, hq⟩ : ∃ q, q = m / 10 := ⟨_, rfl⟩
      have hqm : q < m := by omega
      have HE := Lib.hid (show (q : Int) = (m : Int) / 10 by omega)
      have hcv := convert_bytes (P := Tryz.prog) Tryz.underlying32 Tryz.underlying5 (l := [UInt8.ofNat (48 + q % 10)]) (slc_new wr 5 (0, 0) #[.int .u8 ((UInt8.ofNat (48 + q % 10)).toNat : Int)] (sz := 1) (n := 1) (c := 1) rfl (Nat.le_refl _) (by decide)) 9 Tryz.underlying9
      rw [d22_byte, HE.out] at hcv
      have HB := Lib.hid (hb.out.alloc hb.out.size (.cells #[.int .u8 (48 + (m : Int) / 10 % 10)] 5))
      have hq1 : ¬ 9223372036854775807 < 1 + t.length := by omega
      have HX := Lib.hid (show Lib.decDigits n = preD q ++ (UInt8.ofNat (48 + q % 10) :: t) by
        rw [hd.out]
        unfold preD
        rw [if_neg hlt, ← hq]
        have := preD_all q
        unfold preD at this
        rw [this]
        simp)
      generalize UInt8.ofNat (48 + q % 10) = cb at *
      have HQ := Lib.hid hq
      clear hd hb hlt hq
      go_wp2_with (fail)
      exact ⟨⟨q, cb :: t, by omega, by rw [HE.out], congrArg Value.string (by apply Go.WideShapes.bytes_inj; simp), HX.out, HB.out⟩, by simp [intOf]; omega⟩
theorem dec22 {x : Int} (h0 : 0 ≤ x) (h1 : x ≤ 999999) (w : World) : Calls Tryz.prog 33 #[.int .i64 x] w fun e w' => e = .returned (.string ⟨(Lib.itoa x).toArray⟩) ∧ Below w.heap.size w w' := by
  obtain ⟨n, rfl⟩ : ∃ n : Nat, x = (n : Int) := ⟨x.toNat, by omega⟩
  exact decimal22_any n w (by omega)
theorem ito_short {x : Int} (h0 : 0 ≤ x) (h1 : x ≤ 999999) : (Lib.itoa x).length ≤ 1000 := by
  obtain ⟨n, rfl⟩ : ∃ n : Nat, x = (n : Int) := ⟨x.toNat, by omega⟩
  rw [d22_itoa]
  have := digits_short 5 n (by omega)
  omega
section
attribute [local go_sem ↓] load_menu_mark
set_option maxRecDepth 100000 in
set_option maxHeartbeats 8000000 in
theorem text22_any {w : World} {B : Nat} {A : Option Addr} {n c : Nat} {m : Menu} (h : GensAt w B A n c m.gens) (hB : B ≤ w.heap.size) (hpl : ∀ g ∈ m.gens, g.path.length ≤ 1000000000) :
    Calls Tryz.prog 10 #[menuV m A n c] w fun e w' => e = .returned (.string ⟨(textM m).toArray⟩) ∧ Below w.heap.size w w' := by
  obtain ⟨W1, hW1⟩ : ∃ W1, W1 = w.alloc (.cells #[.int .i64 m.last, .int .i64 m.def_, .int .i64 m.next, .int .i64 m.trial, .slice A n c] 24) := ⟨_, rfl⟩
  have hb1 : Below w.heap.size w W1 := by rw [hW1]; exact (Below.refl _ w).alloc (Nat.le_refl _) _
  have hM1 : Blk W1 w.heap.size 24 #[.int .i64 m.last, .int .i64 m.def_, .int .i64 m.next, .int .i64 m.trial, .slice A n c] := by rw [hW1]; exact Blk.new _ _ _
  have hr := refRight_any (h.below (hb1.mono hB)) (Nat.le_trans hB hb1.size) hpl
  have hl1 := load_menu hM1
  rw [hW1] at hr hl1
  have HB1 := Lib.hid hb1
  have HM1 := Lib.hid hM1
  have H := Lib.hid h
  have hlen := h.len
  clear hb1 hM1 h
  unfold menuV at hr ⊢
  cases hm : menuB m with
  | false =>
    have HT := Lib.hid (show textM m = [] by unfold textM; rw [hm]; rfl)
    rw [hm] at hr
    clear hm hlen
    go_enter Tryz.func10, Tryz.ntmps10
    go_wp2_with (go_at_call 9; refine hr.mono ?_; clear hr; rintro e2 w2 ⟨rfl, hb2⟩; rw [← hW1] at hb2)
    go_ret
    exact ⟨by rw [HT.out]; rfl, HB1.out.trans (hb2.mono HB1.out.size)⟩
  | true =>
    have R := right_menu hm
    have d1 := fun W => dec22 R.last.1 R.last.2 W
    have d2 := fun W => dec22 R.def_.1 R.def_.2 W
    have d3 := fun W => dec22 R.next.1 R.next.2 W
    have d4 := fun W => dec22 R.trial.1 R.trial.2 W
    have s1 := ito_short R.last.1 R.last.2
    have s2 := ito_short R.def_.1 R.def_.2
    have s3 := ito_short R.next.1 R.next.2
    have s4 := ito_short R.trial.1 R.trial.2
    have HT := Lib.hid (show textM m = gensT m m.gens.length ++ [101, 110, 100, 10] by unfold textM; rw [hm]; rfl)
    have HGD := Lib.hid (fun g (hg : g ∈ m.gens) => R.gens g hg)
    have HFEW := Lib.hid R.few
    have HPL := Lib.hid hpl
    have HLEN := Lib.hid hlen
    rw [hm] at hr
    clear hm hpl hlen R
    go_enter Tryz.func10, Tryz.ntmps10
    go_wp2_with (go_at_call 9; refine hr.mono ?_; clear hr; rintro e2 w2 ⟨rfl, hb2⟩; rw [← hW1] at hb2; have hM2 := HM1.out.below hb2 HM1.out.lt; have HB2 := Lib.hid (HB1.out.trans (hb2.mono HB1.out.size)); have HM2 := Lib.hid hM2; clear hb2)
    have hM2 := HM2.out
    have hdr : Below w2.heap.size w2 w2.drew := (Below.refl w2.heap.size w2).drew
    have HK := Lib.hid (fun (W' : World) (hw : Below w2.heap.size w2 W') => show W'.cell? ⟨w.heap.size, 0, none⟩ = some (.int .i64 m.last) ∧ W'.cell? ⟨w.heap.size, 1, none⟩ = some (.int .i64 m.def_) ∧ W'.cell? ⟨w.heap.size, 2, none⟩ = some (.int .i64 m.next) ∧ W'.cell? ⟨w.heap.size, 3, none⟩ = some (.int .i64 m.trial) from by
      have hB := hM2.below hw hM2.lt
      exact ⟨hB.cell 0, hB.cell 1, hB.cell 2, hB.cell 3⟩)
    obtain ⟨k0, k1, k2, k3⟩ := HK.out _ (Below.refl _ w2)
    have HDR := Lib.hid hdr
    generalize ht1 : Lib.itoa m.last = t1 at *
    generalize ht2 : Lib.itoa m.def_ = t2 at *
    generalize ht3 : Lib.itoa m.next = t3 at *
    generalize ht4 : Lib.itoa m.trial = t4 at *
    have HT1 := Lib.hid ht1
    have HT2 := Lib.hid ht2
    have HT3 := Lib.hid ht3
    have HT4 := Lib.hid ht4
    clear ht1 ht2 ht3 ht4 hM2 hdr
    have q1 : ¬ 9223372036854775807 < 10 + t1.length := by omega
    have q2 : ¬ 9223372036854775807 < 10 + t1.length + 9 := by omega
    have q3 : ¬ 9223372036854775807 < 10 + t1.length + 9 + t2.length := by omega
    have q4 : ¬ 9223372036854775807 < 10 + t1.length + 9 + t2.length + 6 := by omega
    have q5 : ¬ 9223372036854775807 < 10 + t1.length + 9 + t2.length + 6 + t3.length := by omega
    have q6 : ¬ 9223372036854775807 < 10 + t1.length + 9 + t2.length + 6 + t3.length + 7 := by omega
    have q7 : ¬ 9223372036854775807 < 10 + t1.length + 9 + t2.length + 6 + t3.length + 7 + t4.length := by omega
    have q8 : ¬ 9223372036854775807 < 10 + t1.length + 9 + t2.length + 6 + t3.length + 7 + t4.length + 1 := by omega
    go_region_held (fun W' => W'.cell? ⟨w.heap.size, 0, none⟩ = some (.int .i64 m.last) ∧ W'.cell? ⟨w.heap.size, 1, none⟩ = some (.int .i64 m.def_) ∧ W'.cell? ⟨w.heap.size, 2, none⟩ = some (.int .i64 m.next) ∧ W'.cell? ⟨w.heap.size, 3, none⟩ = some (.int .i64 m.trial)) (first | exact HK.out _ HC6.out | exact HK.out _ HC5.out | exact HK.out _ HC4.out | exact HK.out _ HC3.out | exact HK.out _ HDR.out) (first
      | (go_at_call 33; refine (d1 _).mono ?_; clear d1; rintro e3 w3 ⟨rfl, hb3⟩; have HC3 := Lib.hid (show Below w2.heap.size w2 w3 from HDR.out.trans hb3); clear hb3)
      | (go_at_call 33; refine (d2 _).mono ?_; clear d2; rintro e4 w4 ⟨rfl, hb4⟩; have HC4 := Lib.hid (HC3.out.trans (hb4.mono HC3.out.size)); clear hb4)
      | (go_at_call 33; refine (d3 _).mono ?_; clear d3; rintro e5 w5 ⟨rfl, hb5⟩; have HC5 := Lib.hid (HC4.out.trans (hb5.mono HC4.out.size)); clear hb5)
      | (go_at_call 33; refine (d4 _).mono ?_; clear d4; rintro e6 w6 ⟨rfl, hb6⟩; have HC6 := Lib.hid (HC5.out.trans (hb6.mono HC5.out.size)); clear hb6))
    have HC := Lib.hid (show w6.cell? ⟨w.heap.size, 4, none⟩ = some (.slice A n c) from (HM2.out.below HC6.out HM2.out.lt).cell 4)
    have HBK := Lib.hid (HM2.out.below HC6.out HM2.out.lt)
    have HB6 := Lib.hid (HB2.out.trans (HC6.out.mono HB2.out.size))
    clear k0 k1 k2 k3 HK
    have hn62 : n ≤ 9223372036854775807 := by have := HLEN.out; have := HFEW.out; omega
    go_wp2_with (fail)
    clear q1 q2 q3 q4 q5 q6 q7 q8
    have HD := Lib.hid (show ((⟨#[109, 101, 110, 117, 10, 108, 97, 115, 116, 32]⟩ : ByteArray) ++ ⟨t1.toArray⟩ ++ ⟨#[10, 100, 101, 102, 97, 117, 108, 116, 32]⟩ ++ ⟨t2.toArray⟩ ++ ⟨#[10, 110, 101, 120, 116, 32]⟩ ++ ⟨t3.toArray⟩ ++ ⟨#[10, 116, 114, 105, 97, 108, 32]⟩ ++ ⟨t4.toArray⟩ ++ ⟨#[10]⟩).data.toList = gensT m 0 from by
      rw [gensT_zero]
      unfold headT lineT lastW defaultW nextW trialW
      rw [HT1.out, HT2.out, HT3.out, HT4.out]
      simp)
    have HDS := Lib.hid (show ((⟨#[109, 101, 110, 117, 10, 108, 97, 115, 116, 32]⟩ : ByteArray) ++ ⟨t1.toArray⟩ ++ ⟨#[10, 100, 101, 102, 97, 117, 108, 116, 32]⟩ ++ ⟨t2.toArray⟩ ++ ⟨#[10, 110, 101, 120, 116, 32]⟩ ++ ⟨t3.toArray⟩ ++ ⟨#[10, 116, 114, 105, 97, 108, 32]⟩ ++ ⟨t4.toArray⟩ ++ ⟨#[10]⟩).size ≤ 5000 from by
      rw [bsz]
      simp
      omega)
    generalize ((⟨#[109, 101, 110, 117, 10, 108, 97, 115, 116, 32]⟩ : ByteArray) ++ ⟨t1.toArray⟩ ++ ⟨#[10, 100, 101, 102, 97, 117, 108, 116, 32]⟩ ++ ⟨t2.toArray⟩ ++ ⟨#[10, 110, 101, 120, 116, 32]⟩ ++ ⟨t3.toArray⟩ ++ ⟨#[10, 116, 114, 105, 97, 108, 32]⟩ ++ ⟨t4.toArray⟩ ++ ⟨#[10]⟩) = bb0 at *
    go_loopw [4, 5] (fun s i wr => ∃ (k : Nat) (bb : ByteArray), k ≤ n ∧ i = .int .i64 (k : Int) ∧ s = .string bb ∧ Aside (bb.data.toList = gensT m k) ∧ Aside (bb.size ≤ 5000 + 2000 * k) ∧ Aside (Blk wr w.heap.size 24 #[.int .i64 m.last, .int .i64 m.def_, .int .i64 m.next, .int .i64 m.trial, .slice A n c]) ∧ Aside (Below w.heap.size w wr)) (fun _ i _ => n - (intOf i).toNat)
    case atStart => exact ⟨0, bb0, Nat.zero_le _, rfl, rfl, HD.out, HDS.out, HBK.out, HB6.out⟩
    case round =>
      obtain ⟨k, bb, hk, rfl, rfl, hbb, hbs, hM, hb⟩ := hrel
      have hbs := hbs.out
      have hn16 : n ≤ 16 := by have := HFEW.out; have := HLEN.out; omega
      by_cases hlt : k < n
      · obtain ⟨b, off, rfl, hbB, hkl, c0, c1⟩ := (H.out.below (hb.out.mono hB)).at_ hlt
        obtain ⟨g0, g1, g2⟩ := HGD.out _ (List.getElem_mem hkl)
        have HSU := Lib.hid (gensT_succ m k hkl)
        have hpl := pathB_len g2
        have hs := ito_short g0 g1
        have hbl : b < wr.heap.size := Nat.lt_of_lt_of_le hbB (Nat.le_trans hB hb.out.size)
        have HDG := Lib.hid (fun W => dec22 g0 g1 W)
        have HK := Lib.hid (fun (W' : World) (hw : Below wr.heap.size wr W') => show W'.cell? ⟨w.heap.size, 4, none⟩ = some (.slice (some ⟨b, off, none⟩) n c) ∧ W'.cell? ⟨b, off + k * 2, none⟩ = some (.int .i64 m.gens[k].num) ∧ W'.cell? ⟨b, off + k * 2 + 1, none⟩ = some (.string ⟨m.gens[k].path.toArray⟩) from
          ⟨(hM.out.below hw hM.out.lt).cell 4, (hw.cell (p := ⟨b, off + k * 2, none⟩) hbl).trans c0, (hw.cell (p := ⟨b, off + k * 2 + 1, none⟩) hbl).trans c1⟩)
        have HDR := Lib.hid (show Below wr.heap.size wr wr.drew from (Below.refl wr.heap.size wr).drew)
        generalize m.gens[k] = g at *
        obtain ⟨num, path⟩ := g
        simp only at HK HDG HSU hpl hs g0 g1 c0 c1
        obtain ⟨u0, u1, u2⟩ := HK.out _ (Below.refl _ wr)
        have HTG := Lib.hid (show genT ⟨num, path⟩ = [103, 101, 110, 32] ++ Lib.itoa num ++ [32] ++ path ++ [10] from rfl)
        generalize Lib.itoa num = tn at *
        have q1 : ¬ 9223372036854775807 < bb.size + 4 := by omega
        have q2 : ¬ 9223372036854775807 < bb.size + 4 + tn.length := by omega
        have q3 : ¬ 9223372036854775807 < bb.size + 4 + tn.length + 1 := by omega
        have q4 : ¬ 9223372036854775807 < bb.size + 4 + tn.length + 1 + path.length := by omega
        have q5 : ¬ 9223372036854775807 < bb.size + 4 + tn.length + 1 + path.length + 1 := by omega
        have HBB := Lib.hid hbb.out
        have HBS := Lib.hid hbs
        have HM := Lib.hid hM.out
        have HB := Lib.hid hb.out
        clear hbb hM hb c0 c1 hbs g0 g1 g2
        go_wp2_with (fail)
        go_region_held (fun W' => W'.cell? ⟨w.heap.size, 4, none⟩ = some (.slice (some ⟨b, off, none⟩) n c) ∧ W'.cell? ⟨b, off + k * 2, none⟩ = some (.int .i64 num) ∧ W'.cell? ⟨b, off + k * 2 + 1, none⟩ = some (.string ⟨path.toArray⟩)) (first | exact HK.out _ HC3.out | exact HK.out _ HDR.out) ((go_at_call 33; refine (HDG.out _).mono ?_; clear HDG; rintro e3 w3 ⟨rfl, hb3⟩; have HC3 := Lib.hid (show Below wr.heap.size wr w3 from HDR.out.trans hb3); clear hb3))
        all_goals go_wp2_with (fail)
        all_goals exact ⟨⟨k + 1, _, by omega, by go_num, rfl, by show _ = _; rw [HSU.out, HTG.out, ← HBB.out]; simp, by show _ ≤ _; have := HBS.out; rw [bsz] at this ⊢; simp at this ⊢; omega, HM.out.below HC3.out HM.out.lt, HB.out.trans (HC3.out.mono HB.out.size)⟩, by simp [intOf]; omega⟩
      · obtain rfl : k = n := by omega
        obtain ⟨m0, m1, m2, m3, m4, mf⟩ := menu_facts hM.out
        have HX := Lib.hid (show textM m = bb.data.toList ++ [101, 110, 100, 10] by rw [HT.out, hbb.out, HLEN.out])
        have q1 : ¬ 9223372036854775807 < bb.size + 4 := by omega
        have HB := Lib.hid hb.out
        clear hbb hM hb hbs mf
        go_wp2_with (fail)
        go_ret
        exact ⟨congrArg (fun x : ByteArray => Ending.returned (.string x)) (by apply Go.WideShapes.bytes_inj; rw [HX.out]; simp), HB.out⟩
end
end Go.Proofs.YtdhlklidenfbeaaGreatDoor
