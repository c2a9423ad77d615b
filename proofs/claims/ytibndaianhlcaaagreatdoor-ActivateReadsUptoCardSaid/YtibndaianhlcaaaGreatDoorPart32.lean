/- bootjackref21.Right: may a system be, as the document's answer has it. bootjackref21.Entries and Meets; bootjacklaw21.alike. -/
import Derived.Test.YtibndaianhlcaaaGreatDoorPart30
import Derived.Test.YtibndaianhlcaaaGreatDoorPart19
import Derived.Test.YtibndaianhlcaaaGreatDoorPart31
import Derived.Test.YtibndaianhlcaaaGreatDoorPart17
namespace Go.Proofs.YtibndaianhlcaaaGreatDoor
open Go.RowKit Go.Sort Go.Shelf
set_option linter.unusedVariables false
set_option linter.unusedSimpArgs false

theorem drewN_bel {B : Nat} {a w : World} (h : Below B a w) (q : Nat) : Below B a (w.drewN q) := ⟨h.os, h.tape, h.output, h.size, h.block⟩
theorem SV.take_srv (us : List SV) {m : Nat} (hm : m < us.length) : (us.map SV.srv).take (m + 1) = (us.map SV.srv).take m ++ [us[m].srv] := by
  rw [List.take_succ_eq_append_getElem (by rw [List.length_map]; exact hm), List.getElem_map]
theorem hasU_take {us : List SV} {m : Nat} (hm : m < us.length) (t : Txt) : hasU ((us.map SV.srv).take (m + 1)) t = (hasU ((us.map SV.srv).take m) t || decide (us[m].name = t)) := by
  rw [SV.take_srv us hm, hasU_app]
  rfl
theorem hasU_more {us : List SV} {j m : Nat} (hj : j < us.length) (hjm : j < m) {t : Txt} (h : us[j].name = t) : hasU ((us.map SV.srv).take m) t = true :=
  hasU_iff.2 ⟨us[j].srv, by
    rw [List.mem_take_iff_getElem]
    exact ⟨j, by rw [List.length_map]; omega, by rw [List.getElem_map]⟩, h⟩
set_option maxRecDepth 100000 in
set_option maxHeartbeats 4000000 in
theorem refRight21_any {w : World} {B : Nat} {o : OV} (h : ObsAt w B o) (hB : B ≤ w.heap.size) (hs : SmallO o) :
    Calls Tryz.prog 16 #[.agg (ovArr o)] w fun e w' => e = .returned (.bool (rightS (sysO o))) ∧ Below w.heap.size w w' := by
  obtain ⟨W0, hW0⟩ : ∃ W0, W0 = w.alloc (.cells (ovArr o) 26) := ⟨_, rfl⟩
  have hb0 : Below w.heap.size w W0 := by rw [hW0]; exact bel_new _ _
  have hG0 : Blk W0 w.heap.size 26 (ovArr o) := by rw [hW0]; exact Blk.new _ _ _
  have hz0 : W0.heap.size = w.heap.size + 1 := by rw [hW0]; simp
  have h0 := h.below (hb0.mono hB)
  have HENT := Lib.hid (fun (W : World) (hb : Below w.heap.size w W) (h2 : o.n2 ≤ 16) (h3 : o.n3 ≤ 24) => refLaid_any (h.below (hb.mono hB)) (Nat.le_trans hB hb.size) hs h2 h3)
  have hfl : ∀ x ∈ (sysO o).files, x.path.length ≤ 1048576 := fun x hx => by
    obtain ⟨e, he, rfl⟩ := List.mem_map.1 hx
    exact (hs.ents e he).1
  have hr := refRight08_any h0.files (Nat.le_trans hB hb0.size) (fun e he => Nat.le_trans (hs.ents e he).1 (by decide))
  obtain ⟨A, n, c, es, A2, n2, c2, users, A3, n3, c3, us⟩ := o
  obtain ⟨h1, h2, h3⟩ := h
  simp only at h1 h2 h3 hr
  unfold ovArr at hW0 hG0 HENT ⊢
  simp only at hW0 hG0 HENT ⊢
  obtain ⟨s, hsd⟩ : ∃ s, s = sysO ⟨A, n, c, es, A2, n2, c2, users, A3, n3, c3, us⟩ := ⟨_, rfl⟩
  have hs1 : s.files = es.map EV.ent := by rw [hsd]; rfl
  have hs2 : s.users = users := by rw [hsd]; rfl
  have hs3 : s.units = us.map SV.srv := by rw [hsd]; rfl
  have HSD := Lib.hid hsd
  have HFS := Lib.hid (show ∀ x ∈ s.files, x.path.length ≤ 1048576 by rw [hsd]; exact hfl)
  rw [← hs1] at hr
  rw [← hsd]
  have HS1 := Lib.hid hs1
  have HS2 := Lib.hid hs2
  have HS3 := Lib.hid hs3
  have H2 := Lib.hid h2
  have H3 := Lib.hid h3
  have HSU := Lib.hid (show ∀ t ∈ users, t.length ≤ 1048576 from hs.users)
  have HSN := Lib.hid (show ∀ u ∈ us, SmallU u from hs.units)
  have HL2 := Lib.hid (show users.length = n2 by have := h2.len; simpa using this)
  have HL3 := Lib.hid h3.len
  have HB := Lib.hid hB
  have HB0 := Lib.hid hb0
  have HG0 := Lib.hid hG0
  have HZ0 := Lib.hid hz0
  have HW0 := Lib.hid hW0
  rw [hW0] at hr
  have hn2 : n2 ≤ 1048576 := hs.n2
  have hn3 : n3 ≤ 1048576 := hs.n3
  have HFIN := Lib.hid (show ∀ w2, Below W0.heap.size W0 w2 → w2.cell? ⟨w.heap.size, 0, none⟩ = some (.slice A n c) ∧ w2.cell? ⟨w.heap.size, 1, none⟩ = some (.slice A2 n2 c2) ∧ w2.cell? ⟨w.heap.size, 2, none⟩ = some (.slice A3 n3 c3) from fun w2 hb => ⟨(hG0.below hb hG0.lt).cell 0, (hG0.below hb hG0.lt).cell 1, (hG0.below hb hG0.lt).cell 2⟩)
  clear h0 h1 h2 h3 hs hB hb0 hG0 hz0 hW0 hsd hs1 hs2 hs3 hfl
  cases hf : rightB s.files with
  | false =>
    have HX := Lib.hid (right_false (s := s) (fun hq => by rw [hf] at hq; exact absurd hq.1 (by decide)))
    rw [hf] at hr
    clear hf
    go_enter Tryz.func16, Tryz.ntmps16
    go_wp2_with (go_at_call 44; refine hr.mono ?_; clear hr; rintro e2 w2 ⟨rfl, hb2⟩; rw [← HW0.out] at hb2)
    go_ret
    exact ⟨by rw [HX.out]; rfl, HB0.out.trans (hb2.mono HB0.out.size)⟩
  | true =>
    have HF := Lib.hid hf
    rw [hf] at hr
    clear hf
    by_cases hsz : n2 ≤ 16 ∧ n3 ≤ 24
    case neg =>
      have HX := Lib.hid (right_false (s := s) (fun hq => hsz ⟨by have := hq.2.1; rw [HS2.out, HL2.out] at this; exact this, by have := hq.2.2.1; rw [HS3.out, List.length_map, HL3.out] at this; exact this⟩))
      by_cases h16 : n2 ≤ 16
      · have h24 : 24 < n3 := by omega
        clear hsz
        go_enter Tryz.func16, Tryz.ntmps16
        go_wp2_with (go_at_call 44; refine hr.mono ?_; clear hr; rintro e2 w2 ⟨rfl, hb2⟩; rw [← HW0.out] at hb2; obtain ⟨k0, k1, k2⟩ := HFIN.out w2 hb2)
        go_ret
        exact ⟨by rw [HX.out]; rfl, HB0.out.trans (hb2.mono HB0.out.size)⟩
      · clear hsz
        go_enter Tryz.func16, Tryz.ntmps16
        go_wp2_with (go_at_call 44; refine hr.mono ?_; clear hr; rintro e2 w2 ⟨rfl, hb2⟩; rw [← HW0.out] at hb2; obtain ⟨k0, k1, k2⟩ := HFIN.out w2 hb2)
        go_ret
        exact ⟨by rw [HX.out]; rfl, HB0.out.trans (hb2.mono HB0.out.size)⟩
    case pos =>
      obtain ⟨h16, h24⟩ := hsz
      go_enter Tryz.func16, Tryz.ntmps16
      go_wp2_with (go_at_call 44; refine hr.mono ?_; clear hr; rintro e2 w2 ⟨rfl, hb2⟩; rw [← HW0.out] at hb2; obtain ⟨k0, k1, k2⟩ := HFIN.out w2 hb2)
      go_loopw [4] (fun i wr => ∃ k : Nat, k ≤ n2 ∧ i = .int .i64 (k : Int) ∧ Aside ((users.take k).all nameB = true) ∧ Aside ((users.take k).Pairwise (· < ·)) ∧ Aside (Below W0.heap.size W0 wr)) (fun i _ => n2 - (intOf i).toNat)
      case atStart => exact ⟨0, Nat.zero_le _, rfl, rfl, (show List.Pairwise _ (users.take 0) by simp), hb2⟩
      case round =>
        obtain ⟨k, hk, rfl, hall, hpw, hb⟩ := hrel
        clear k0 k1 k2 hb2
        obtain ⟨q0, q1, q2⟩ := HFIN.out wr hb.out
        have hbw := HB0.out.trans (hb.out.mono HB0.out.size)
        by_cases hlt : k < n2
        · obtain ⟨b, off, rfl, hbB, hl, c0⟩ := txtAt21 (H2.out.below (hbw.mono HB.out)) hlt
          have hbl : b < wr.heap.size := Nat.lt_of_lt_of_le hbB (Nat.le_trans HB.out hbw.size)
          have hnm := refName_any ⟨users[k].toArray⟩ wr (by rw [bsz_mk]; have := HSU.out _ (List.getElem_mem hl); unfold maxLen; omega)
          rw [show (ByteArray.mk users[k].toArray).data.toList = users[k] from by simp] at hnm
          have HSX := Lib.hid (fun hb : nameB users[k] = true => show (users.take (k + 1)).all nameB = true by rw [List.take_succ_eq_append_getElem hl, List.all_append, hall.out, List.all_cons, hb]; rfl)
          have HNX := Lib.hid (fun hb : nameB users[k] = false => right_false (s := s) (fun hq => by
            have := hq.2.2.2.1 users[k] (by rw [HS2.out]; exact List.getElem_mem hl)
            rw [hb] at this
            exact absurd this (by decide)))
          have HRX := Lib.hid (fun hp => rises_snoc hl hpw.out hp)
          have HRF := Lib.hid (fun (h0 : 0 < k) (hp : ¬ users[k - 1] < users[k]) => right_false (s := s) (fun hq => not_rises hl h0 hp (HS2.out ▸ hq.2.2.2.2.1)))
          have HKK := Lib.hid (fun (W : World) (hW : Below wr.heap.size wr W) => show W.cell? ⟨w.heap.size, 1, none⟩ = some (.slice (some ⟨b, off, none⟩) n2 c2) from (HFIN.out W (hb.out.trans (hW.mono hb.out.size))).2.1)
          have HBW := Lib.hid hbw
          have HBR := Lib.hid hb.out
          have HKB := Lib.hid hk
          clear hbw hb hall hpw
          cases hnb : nameB users[k] with
          | false =>
            have HX := Lib.hid (HNX.out hnb)
            rw [hnb] at hnm
            clear hnb HSX HNX HRX HRF
            generalize users[k] = t at *
            go_wp2_with (go_at_call 45; refine hnm.mono ?_; clear hnm; rintro e3 w3 ⟨rfl, hb3⟩)
            go_quiet (fail)
            go_wp2
            go_ret
            exact ⟨by rw [HX.out]; rfl, HBW.out.trans (drewN_bel (hb3.mono HBW.out.size) _)⟩
          | true =>
            have HX := Lib.hid (HSX.out hnb)
            rw [hnb] at hnm
            clear hnb HSX HNX
            by_cases h0 : 0 < k
            · obtain ⟨m, rfl⟩ : ∃ m, k = m + 1 := ⟨k - 1, by omega⟩
              obtain ⟨b', off', hA, _, hml, d0⟩ := txtAt21 (H2.out.below (HBW.out.mono HB.out)) (k := m) (by omega)
              obtain ⟨rfl, rfl, -⟩ := Addr.mk.inj (Option.some.inj hA)
              have hm1 : m + 1 - 1 = m := by omega
              have HRX2 := Lib.hid (fun hp : users[m] < users[m + 1] => HRX.out (fun _ => hp))
              have HRF2 := Lib.hid (fun hp : ¬ users[m] < users[m + 1] => HRF.out (by omega) hp)
              clear HRX HRF
              generalize users[m] = t' at *
              generalize users[m + 1] = t at *
              have hcmp := less_str t' t
              have hwm : IntKind.i64.wrap (((m + 1 : Nat) : Int) - 1) = (m : Int) := by rw [IntWalk.i64_in _ (by omega)]; omega
              have hmn : m < n2 := by omega
              have hcmp2 := bytesLess_txt t' t
              by_cases hlp : t' < t
              · have HR := Lib.hid (HRX2.out hlp)
                rw [decide_eq_true hlp] at hcmp hcmp2
                clear hlp HRX2 HRF2
                go_wp2_with (go_at_call 45; refine hnm.mono ?_; clear hnm; rintro e3 w3 ⟨rfl, hb3⟩; have e0 := (hb3.cell (p := ⟨b, off + (m + 1), none⟩) hbl).trans c0; have e1 := (hb3.cell (p := ⟨b, off + m, none⟩) hbl).trans d0; have e2 := HKK.out _ hb3)
                go_quiet (fail)
                go_wp2
                exact ⟨⟨m + 1 + 1, by omega, by go_num, HX.out, HR.out, drewN_bel (HBR.out.trans (hb3.mono HBR.out.size)) _⟩, by simp [intOf]; omega⟩
              · have HR := Lib.hid (HRF2.out hlp)
                rw [decide_eq_false hlp] at hcmp hcmp2
                clear hlp HRX2 HRF2
                go_wp2_with (go_at_call 45; refine hnm.mono ?_; clear hnm; rintro e3 w3 ⟨rfl, hb3⟩; have e0 := (hb3.cell (p := ⟨b, off + (m + 1), none⟩) hbl).trans c0; have e1 := (hb3.cell (p := ⟨b, off + m, none⟩) hbl).trans d0; have e2 := HKK.out _ hb3)
                go_quiet (fail)
                go_wp2
                go_ret
                exact ⟨by rw [HR.out]; rfl, drewN_bel (HBW.out.trans (hb3.mono HBW.out.size)) _⟩
            · obtain rfl : k = 0 := by omega
              have HR := Lib.hid (HRX.out (fun h9 => absurd h9 (by decide)))
              clear HRX HRF
              rw [Nat.add_zero] at c0
              generalize users[0] = t at *
              go_wp2_with (go_at_call 45; refine hnm.mono ?_; clear hnm; rintro e3 w3 ⟨rfl, hb3⟩; have e0 := (hb3.cell (p := ⟨b, off, none⟩) hbl).trans c0; have e2 := HKK.out _ hb3)
              go_quiet (fail)
              go_wp2
              exact ⟨⟨1, by omega, by go_num, HX.out, HR.out, drewN_bel (HBR.out.trans (hb3.mono HBR.out.size)) _⟩, by simp [intOf]; omega⟩
        · obtain rfl : k = n2 := by omega
          have HALL := Lib.hid (show s.users.all nameB = true by rw [HS2.out, ← hall.out, List.take_of_length_le (by have := HL2.out; omega)])
          have HPW := Lib.hid (show s.users.Pairwise (· < ·) by have := hpw.out; rw [List.take_of_length_le (by have := HL2.out; omega)] at this; rw [HS2.out]; exact this)
          have HBR := Lib.hid hb.out
          clear hall hpw hb hbw
          go_wp2_with (fail)
          go_loopw [6] (fun i wr' => ∃ m : Nat, m ≤ n3 ∧ i = .int .i64 (m : Int) ∧ Aside (unitsOk [] ((us.map SV.srv).take m) = true) ∧ Aside (Below W0.heap.size W0 wr')) (fun i _ => n3 - (intOf i).toNat)
          case atStart => exact ⟨0, Nat.zero_le _, rfl, rfl, HBR.out⟩
          case round =>
            obtain ⟨m, hm, rfl, hok, hb⟩ := hrel
            clear q0 q1 q2
            obtain ⟨q0, q1, q2⟩ := HFIN.out wr hb.out
            have hbw := HB0.out.trans (hb.out.mono HB0.out.size)
            by_cases hlt : m < n3
            · obtain ⟨b, off, rfl, hbB, hl, c0, c1, c2', c3', hS1, hS2⟩ := (H3.out.below (hbw.mono HB.out)).at_ hlt
              have hBw : B ≤ wr.heap.size := Nat.le_trans HB.out hbw.size
              have hsu := HSN.out _ (List.getElem_mem hl)
              have HTK := Lib.hid (SV.take_srv us hl)
              have HBAD := Lib.hid (fun (hbad : ¬ (mayU us[m].srv = true ∧ hasU ((us.map SV.srv).take m) us[m].srv.name = false ∧ us[m].srv.req.all (hasU ((us.map SV.srv).take m)) = true)) => right_false (s := s) (fun hq => hbad (by
                have hul : m < (us.map SV.srv).length := by rw [List.length_map]; exact hl
                have h9 := units_ok_at s.units [] hq.2.2.2.2.2 ((us.map SV.srv).take m) ((us.map SV.srv)[m]) ((us.map SV.srv).drop (m + 1)) (by rw [HS3.out, List.getElem_cons_drop, List.take_append_drop])
                rw [List.nil_append, List.getElem_map] at h9
                exact h9)))
              have HOK := Lib.hid (show ∀ (h9 : mayU us[m].srv = true ∧ hasU ((us.map SV.srv).take m) us[m].srv.name = false ∧ us[m].srv.req.all (hasU ((us.map SV.srv).take m)) = true), unitsOk [] ((us.map SV.srv).take (m + 1)) = true from fun h9 => by
                rw [HTK.out, units_ok_snoc, hok.out, List.nil_append, h9.1, h9.2.1, h9.2.2]; rfl)
              generalize hue : us[m] = u at *
              have HUE := Lib.hid hue
              clear hue
              obtain ⟨W1, hW1⟩ : ∃ W1, W1 = wr.alloc (.cells (svArr u) 59) := ⟨_, rfl⟩
              have hb1 : Below wr.heap.size wr W1 := by rw [hW1]; exact bel_new _ _
              have hz1 : W1.heap.size = wr.heap.size + 1 := by rw [hW1]; simp
              have hG1 : Blk W1 wr.heap.size 59 (svArr u) := by rw [hW1]; exact Blk.new _ _ _
              have hS1' := hS1.below (hb1.mono hBw)
              have hS2' := hS2.below (hb1.mono hBw)
              have hmay := refMay_any (w := W1) u hS1' hS2' (by omega) ⟨by have := hsu.n; omega, by have := hsu.n2; omega⟩ (fun t ht => by
                rcases List.mem_cons.1 ht with rfl | ht
                · have := hsu.name; omega
                · have := hsu.texts t ht; omega) (by have := hsu.start; omega)
              have HLD := Lib.hid (fun (W : World) (hW : Below W1.heap.size W1 W) => show W.cell? ⟨wr.heap.size, 0, none⟩ = some (.string ⟨u.name.toArray⟩) ∧ W.cell? ⟨wr.heap.size, 1, none⟩ = some (.string ⟨u.start.toArray⟩) ∧ W.cell? ⟨wr.heap.size, 2, none⟩ = some (.slice u.A u.n u.c) ∧ W.cell? ⟨wr.heap.size, 3, none⟩ = some (.slice u.A2 u.n2 u.c2) ∧ W.cell? ⟨w.heap.size, 2, none⟩ = some (.slice (some ⟨b, off, none⟩) n3 c3) from ⟨(hG1.below hW hG1.lt).cell 0, (hG1.below hW hG1.lt).cell 1, (hG1.below hW hG1.lt).cell 2, (hG1.below hW hG1.lt).cell 3, (HFIN.out W (hb.out.trans ((hb1.trans (hW.mono hb1.size)).mono hb.out.size))).2.2⟩)
              have HBX := Lib.hid (fun (W : World) (hW : Below W1.heap.size W1 W) => show Below w.heap.size w W ∧ Below W0.heap.size W0 W from ⟨hbw.trans ((hb1.trans (hW.mono hb1.size)).mono hbw.size), hb.out.trans ((hb1.trans (hW.mono hb1.size)).mono hb.out.size)⟩)
              have HRQ := Lib.hid (show ∀ (W : World), Below W1.heap.size W1 W → Slc W B 1 u.A u.n u.c (u.req.map encStr) from fun W hW => hS1'.below (hW.mono (by omega)))
              have HZ1 := Lib.hid hz1
              have HSM := Lib.hid hsu
              have HW1 := Lib.hid hW1
              have HNM := Lib.hid (show u.srv.name = u.name from rfl)
              have HRE := Lib.hid (show u.srv.req = u.req from rfl)
              rw [hW1] at hmay
              rw [HNM.out, HRE.out] at HBAD HOK
              unfold svArr at hmay
              clear hS1 hS2 hS1' hS2' hsu hW1 hG1 hz1 hb1 hbw hb hok hBw
              cases hmy : mayU u.srv with
              | false =>
                have HX := Lib.hid (HBAD.out (fun h9 => by rw [hmy] at h9; exact absurd h9.1 (by decide)))
                rw [hmy] at hmay
                clear hmy
                go_wp2_with (go_at_call 46; refine hmay.mono ?_; clear hmay; rintro e4 w4 ⟨rfl, hb4⟩; have HB4 := Lib.hid (show Below w.heap.size w w4 from (HBX.out w4 (by rw [HW1.out]; exact hb4)).1); clear hb4)
                go_ret
                exact ⟨by rw [HX.out]; rfl, HB4.out⟩
              | true =>
                rw [hmy] at hmay
                have HMY := Lib.hid hmy
                clear hmy
                go_wp2_with (go_at_call 46; refine hmay.mono ?_; clear hmay; rintro e4 w4 ⟨rfl, hb4⟩; have HB4 := Lib.hid (show Below W1.heap.size W1 w4 from by rw [HW1.out]; exact hb4); clear hb4)
                go_loopw [9] (fun i wr' => ∃ j : Nat, j ≤ m ∧ i = .int .i64 (j : Int) ∧ Aside (hasU ((us.map SV.srv).take j) u.name = false) ∧ Aside (Below W1.heap.size W1 wr')) (fun i _ => m - (intOf i).toNat)
                case atStart => exact ⟨0, Nat.zero_le _, rfl, (show hasU ((us.map SV.srv).take 0) u.name = false from rfl), HB4.out⟩
                case round =>
                  obtain ⟨j, hj, rfl, hno, hb⟩ := hrel
                  obtain ⟨y0, y1, y2, y3, y4⟩ := HLD.out _ hb.out
                  have hbx := HBX.out _ hb.out
                  have HBX1 := Lib.hid hbx.1
                  have HBX2 := Lib.hid hbx.2
                  have hzw := Nat.le_trans HB.out hbx.1.size
                  by_cases hjm : j < m
                  · obtain ⟨bj, offj, hA, hbjB, hjl, d0, d1, d2, d3, -, -⟩ := (H3.out.below (hbx.1.mono HB.out)).at_ (k := j) (by omega)
                    obtain ⟨rfl, rfl, -⟩ := Addr.mk.inj (Option.some.inj hA)
                    have HTJ := Lib.hid (hasU_take hjl u.name)
                    have HMJ := Lib.hid (fun (hy : us[j].name = u.name) => hasU_more (us := us) (m := m) hjl hjm hy)
                    generalize us[j] = y at *
                    have hjn : j < n3 := by omega
                    clear hbx
                    by_cases hy : y.name = u.name
                    · have HX := Lib.hid (HBAD.out (fun h9 => by rw [HMJ.out hy] at h9; exact absurd h9.2.1 (by decide)))
                      have hyb : (y.name == u.name) = true := by rw [beq_iff_eq]; exact hy
                      clear hy HMJ HTJ hno
                      go_wp2_with (fail)
                      go_quiet (fail)
                      go_wp2
                      go_ret
                      exact ⟨by rw [HX.out]; rfl, drewN_bel HBX1.out _⟩
                    · have HX := Lib.hid (show hasU ((us.map SV.srv).take (j + 1)) u.name = false by rw [HTJ.out, hno.out, decide_eq_false hy]; rfl)
                      have hyb : (y.name == u.name) = false := by rw [beq_eq_false_iff_ne]; exact hy
                      clear hy HMJ HTJ hno
                      go_wp2_with (fail)
                      go_quiet (fail)
                      go_wp2
                      exact ⟨⟨j + 1, by omega, by go_num, HX.out, drewN_bel hb.out _⟩, by simp [intOf]; omega⟩
                  · obtain rfl : j = m := by omega
                    have HNO := Lib.hid hno.out
                    have HBB := Lib.hid hb.out
                    clear hno hb hbx
                    go_wp2_with (fail)
                    go_loopw [10] (fun i wr' => ∃ q : Nat, q ≤ u.n ∧ i = .int .i64 (q : Int) ∧ Aside ((u.req.take q).all (hasU ((us.map SV.srv).take j)) = true) ∧ Aside (Below W1.heap.size W1 wr')) (fun i _ => u.n - (intOf i).toNat)
                    case atStart => exact ⟨0, Nat.zero_le _, rfl, rfl, HBB.out⟩
                    case round =>
                      clear HBX1 HBX2 y0 y1 y2 y3 y4 HBB hzw
                      obtain ⟨q, hq, rfl, hall, hb⟩ := hrel
                      obtain ⟨y0, y1, y2, y3, y4⟩ := HLD.out _ hb.out
                      have hbx := HBX.out _ hb.out
                      have HBX1 := Lib.hid hbx.1
                      have HBX2 := Lib.hid hbx.2
                      have hzw := Nat.le_trans HB.out hbx.1.size
                      have hsr := HRQ.out _ hb.out
                      have hlq : u.req.length = u.n := by have := hsr.len; simpa using this
                      have hnq := HSM.out.n
                      by_cases hlt2 : q < u.n
                      · obtain ⟨bq, oq, hAq, hbqB, hql, dq⟩ := txtAt21 hsr hlt2
                        have HALX := Lib.hid (fun hh : hasU ((us.map SV.srv).take j) u.req[q] = true => show (u.req.take (q + 1)).all (hasU ((us.map SV.srv).take j)) = true by rw [List.take_succ_eq_append_getElem hql, List.all_append, hall.out, List.all_cons, hh]; rfl)
                        have HALN := Lib.hid (fun hh : hasU ((us.map SV.srv).take j) u.req[q] = false => HBAD.out (fun h9 => by
                          have := List.all_eq_true.1 h9.2.2 _ (List.getElem_mem hql)
                          rw [hh] at this
                          exact absurd this (by decide)))
                        have HBB := Lib.hid hb.out
                        have HSR := Lib.hid hsr
                        have HAQ := Lib.hid hAq
                        clear hAq
                        generalize htr : u.req[q] = t at *
                        have HTR := Lib.hid htr
                        have hjn : j < n3 := by omega
                        clear hall hsr hlq hbx htr hb
                        go_wp2_with (fail)
                        go_loopw [11, 12] (fun a i wr' => ∃ (p : Nat) (ah : Bool), p ≤ j ∧ i = .int .i64 (p : Int) ∧ a = .bool ah ∧ Aside (hasU ((us.map SV.srv).take p) t = ah) ∧ Aside (Below W1.heap.size W1 wr')) (fun _ i _ => j - (intOf i).toNat)
                        case atStart => exact ⟨0, false, Nat.zero_le _, rfl, rfl, (show hasU ((us.map SV.srv).take 0) t = false from rfl), HBB.out⟩
                        case round =>
                          clear HBX1 HBX2 y0 y1 y2 y3 y4 dq hzw
                          obtain ⟨p, ah, hp, rfl, rfl, hah, hb⟩ := hrel
                          obtain ⟨y0, y1, y2, y3, y4⟩ := HLD.out _ hb.out
                          rw [HAQ.out] at y2
                          have hbx := HBX.out _ hb.out
                          have HBX1 := Lib.hid hbx.1
                          have HBX2 := Lib.hid hbx.2
                          by_cases hpj : p < j
                          · obtain ⟨bp, op, hAp, hbpB, hpl, d0, d1, d2, d3, -, -⟩ := (H3.out.below (hbx.1.mono HB.out)).at_ (k := p) (by omega)
                            obtain ⟨rfl, rfl, -⟩ := Addr.mk.inj (Option.some.inj hAp)
                            obtain ⟨bq', oq', hAq', -, hql', dq⟩ := txtAt21 (HRQ.out _ hb.out) hlt2
                            rw [HAQ.out] at hAq'
                            obtain ⟨rfl, rfl, -⟩ := Addr.mk.inj (Option.some.inj hAq')
                            rw [HTR.out] at dq
                            have HTP := Lib.hid (hasU_take hpl t)
                            generalize us[p] = y at *
                            have hpn : p < n3 := by omega
                            have hHB := hb
                            clear hbx hb
                            cases ah with
                            | true =>
                              have HX := Lib.hid (show hasU ((us.map SV.srv).take (p + 1)) t = true by rw [HTP.out, hah.out]; rfl)
                              clear hah HTP
                              go_wp2_with (fail)
                              go_quiet (fail)
                              go_wp2
                              exact ⟨⟨p + 1, true, by omega, by go_num, rfl, HX.out, drewN_bel hHB.out _⟩, by simp [intOf]; omega⟩
                            | false =>
                              by_cases hy : y.name = t
                              · have HX := Lib.hid (show hasU ((us.map SV.srv).take (p + 1)) t = true by rw [HTP.out, decide_eq_true hy, Bool.or_true])
                                have hyb : (y.name == t) = true := by rw [beq_iff_eq]; exact hy
                                clear hah HTP hy
                                go_wp2_with (fail)
                                go_quiet (fail)
                                go_wp2
                                exact ⟨⟨p + 1, true, by omega, by go_num, rfl, HX.out, drewN_bel hHB.out _⟩, by simp [intOf]; omega⟩
                              · have HX := Lib.hid (show hasU ((us.map SV.srv).take (p + 1)) t = false by rw [HTP.out, hah.out, decide_eq_false hy]; rfl)
                                have hyb : (y.name == t) = false := by rw [beq_eq_false_iff_ne]; exact hy
                                clear hah HTP hy
                                go_wp2_with (fail)
                                go_quiet (fail)
                                go_wp2
                                exact ⟨⟨p + 1, false, by omega, by go_num, rfl, HX.out, drewN_bel hHB.out _⟩, by simp [intOf]; omega⟩
                          · obtain rfl : p = j := by omega
                            clear hbx
                            cases ah with
                            | true =>
                              have HX := Lib.hid (HALX.out hah.out)
                              clear hah
                              go_wp2_with (fail)
                              exact ⟨⟨q + 1, by omega, by go_num, HX.out, hb.out⟩, by simp [intOf]; omega⟩
                            | false =>
                              have HX := Lib.hid (HALN.out hah.out)
                              clear hah
                              go_wp2_with (fail)
                              go_ret
                              exact ⟨by rw [HX.out]; rfl, HBX1.out⟩
                      · obtain rfl : q = u.n := by omega
                        have HX := Lib.hid (HOK.out ⟨HMY.out, HNO.out, by have h9 := hall.out; rwa [List.take_of_length_le (l := u.req) (by omega)] at h9⟩)
                        clear hall hsr hlq
                        go_wp2_with (fail)
                        exact ⟨⟨j + 1, by omega, by go_num, HX.out, HBX2.out⟩, by simp [intOf]; omega⟩
            · obtain rfl : m = n3 := by omega
              have HEQ := Lib.hid (show rightS s = rightB (laidS s) from right_true HF.out (by rw [HS2.out, HL2.out]; exact h16) (by rw [HS3.out, List.length_map, HL3.out]; exact h24) HALL.out HPW.out (by rw [HS3.out, ← hok.out, List.take_of_length_le (by rw [List.length_map, HL3.out]; exact Nat.le_refl _)]))
              have hent := HENT.out wr hbw h16 h24
              have HBW := Lib.hid hbw
              clear hbw hok hb
              go_wp2_with (first
                | (go_at_call 36; refine hent.mono ?_; clear hent; rintro e4 w4 ⟨A', n', c', es', rfl, hes, hla, hb4⟩; rw [← HSD.out] at hes; have hri := refRight08_any hla (Nat.le_refl _) (LaidAt.paths (w := w4) (base := wr.heap.size) (A := A') (n := n') (c := c') hes HFS.out); rw [hes, ← HEQ.out] at hri; have HB4 := Lib.hid (HBW.out.trans (hb4.mono HBW.out.size)); clear hes hla hb4)
                | (go_at_call 44; refine hri.mono ?_; clear hri; rintro e5 w5 ⟨rfl, hb5⟩))
              go_ret
              exact ⟨rfl, HB4.out.trans (hb5.mono HB4.out.size)⟩
end Go.Proofs.YtibndaianhlcaaaGreatDoor
namespace Go.Proofs.YtibndaianhlcaaaGreatDoor
open Go.RowKit Go.Sort Go.Shelf
set_option linter.unusedVariables false
set_option linter.unusedSimpArgs false

/-- What ref21.Entries gives. -/
def RefEnts (w : World) (s : SysP) : Ending → World → Prop := fun e w' => ∃ A n c es, e = .returned (.slice A n c) ∧ es.map EV.ent = (if rightS s = true then laidS s else []) ∧ EntsAt w' w'.heap.size A n c es ∧ Below w.heap.size w w'
theorem refEntries21_any {w : World} {B : Nat} {o : OV} (h : ObsAt w B o) (hB : B ≤ w.heap.size) (hs : SmallO o) :
    Calls Tryz.prog 11 #[.agg (ovArr o)] w (RefEnts w (sysO o)) := by
  obtain ⟨W0, hW0⟩ : ∃ W0, W0 = w.alloc (.cells (ovArr o) 26) := ⟨_, rfl⟩
  have hb0 : Below w.heap.size w W0 := by rw [hW0]; exact bel_new _ _
  have hG0 : Blk W0 w.heap.size 26 (ovArr o) := by rw [hW0]; exact Blk.new _ _ _
  have hr := refRight21_any (h.below (hb0.mono hB)) (Nat.le_trans hB hb0.size) hs
  have HENT := Lib.hid (fun (W : World) (hb : Below w.heap.size w W) (hr : rightS (sysO o) = true) => refLaid_any (h.below (hb.mono hB)) (Nat.le_trans hB hb.size) hs (by have h9 := (right_parts hr).2.1; have := h.users.len; simp at this; rw [← this]; exact h9) (by have h9 := (right_parts hr).2.2.1; have := h.units.len; rw [← this]; simpa [sysO] using h9))
  have HK := Lib.hid (fun (W : World) (hW : Below W0.heap.size W0 W) => hG0.below hW hG0.lt)
  have HB0 := Lib.hid hb0
  rw [hW0] at hr
  obtain ⟨A, n, c, es, A2, n2, c2, users, A3, n3, c3, us⟩ := o
  unfold ovArr at hr HK HENT hW0 ⊢
  simp only at hr HK HENT hW0 ⊢
  have HW0 := Lib.hid hW0
  clear hb0 hG0 hW0 h
  cases hrt : rightS (sysO ⟨A, n, c, es, A2, n2, c2, users, A3, n3, c3, us⟩) with
  | false =>
    rw [hrt] at hr
    have HR := Lib.hid hrt
    clear hrt HENT
    go_enter Tryz.func11, Tryz.ntmps11
    go_wp2_with (go_at_call 16; refine hr.mono ?_; clear hr; rintro e2 w2 ⟨rfl, hb2⟩; rw [← HW0.out] at hb2)
    go_ret
    exact ⟨none, 0, 0, [], rfl, by rw [HR.out]; rfl, ⟨slc_none _ _ _, rfl, fun e he => by cases he⟩, HB0.out.trans (hb2.mono HB0.out.size)⟩
  | true =>
    have HR := Lib.hid hrt
    rw [hrt] at hr
    clear hrt
    go_enter Tryz.func11, Tryz.ntmps11
    go_wp2_with (first
      | (go_at_call 16; refine hr.mono ?_; clear hr; rintro e2 w2 ⟨rfl, hb2⟩; rw [← HW0.out] at hb2; have hG2 := HK.out w2 hb2; have y0 := hG2.cell 0; have y1 := hG2.cell 1; have y2 := hG2.cell 2; simp only [List.getElem?_toArray, List.getElem?_cons_zero, List.getElem?_cons_succ] at y0 y1 y2; have HB2 := Lib.hid (HB0.out.trans (hb2.mono HB0.out.size)); have hent := HENT.out w2 HB2.out HR.out; clear hb2 hG2)
      | (go_at_call 36; refine hent.mono ?_; clear hent; rintro e4 w4 ⟨A', n', c', es', rfl, h1, h2, hb4⟩; have HP := Lib.hid (And.intro h1 (And.intro h2 hb4)); clear h1 h2 hb4))
    go_ret
    obtain ⟨h1, h2, h3⟩ := HP.out
    exact ⟨A', n', c', es', rfl, by rw [HR.out, if_pos rfl]; exact h1, h2, HB2.out.trans (h3.mono HB2.out.size)⟩
theorem refMeets21_any {w : World} {B : Nat} {a b : OV} (ha : ObsAt w B a) (hb : ObsAt w B b) (hB : B ≤ w.heap.size) :
    Calls Tryz.prog 18 #[.agg (ovArr a), .agg (ovArr b)] w fun e w' => e = .returned (.bool (sameO a b)) ∧ Below w.heap.size w w' := by
  obtain ⟨W1, hW1⟩ : ∃ W1, W1 = (w.alloc (.cells (ovArr a) 28)).alloc (.cells (ovArr b) 26) := ⟨_, rfl⟩
  have hb1 : Below w.heap.size w W1 := by rw [hW1]; exact (bel_new _ _).alloc (by simp) _
  have hs := same20_any (ha.below (hb1.mono hB)) (hb.below (hb1.mono hB)) (Nat.le_trans hB hb1.size)
  have HB1 := Lib.hid hb1
  rw [hW1] at hs
  have HW1 := Lib.hid hW1
  generalize sameO a b = x at *
  obtain ⟨A, n, c, es, A2, n2, c2, us, A3, n3, c3, vs⟩ := a
  obtain ⟨A', n', c', es', A2', n2', c2', us', A3', n3', c3', vs'⟩ := b
  unfold ovArr at hs HW1 ⊢
  simp only at hs HW1 ⊢
  clear ha hb hb1 hW1
  go_enter Tryz.func18, Tryz.ntmps18
  go_wp2_with (go_at_call 24; refine hs.mono ?_; clear hs; rintro e2 w2 ⟨rfl, hb2⟩; rw [← HW1.out] at hb2)
  go_ret
  exact ⟨rfl, HB1.out.trans (hb2.mono HB1.out.size)⟩
theorem lawAlike21_any {w : World} {B : Nat} {a b : OV} (ha : ObsAt w B a) (hb : ObsAt w B b) (hB : B ≤ w.heap.size) :
    Calls Tryz.prog 19 #[.agg (ovArr a), .agg (ovArr b)] w fun e w' => e = .returned (.bool (sameO a b)) ∧ Below w.heap.size w w' := by
  obtain ⟨W1, hW1⟩ : ∃ W1, W1 = (w.alloc (.cells (ovArr a) 26)).alloc (.cells (ovArr b) 26) := ⟨_, rfl⟩
  have hb1 : Below w.heap.size w W1 := by rw [hW1]; exact (bel_new _ _).alloc (by simp) _
  have hs := same20_any (ha.below (hb1.mono hB)) (hb.below (hb1.mono hB)) (Nat.le_trans hB hb1.size)
  have HB1 := Lib.hid hb1
  rw [hW1] at hs
  have HW1 := Lib.hid hW1
  generalize sameO a b = x at *
  obtain ⟨A, n, c, es, A2, n2, c2, us, A3, n3, c3, vs⟩ := a
  obtain ⟨A', n', c', es', A2', n2', c2', us', A3', n3', c3', vs'⟩ := b
  unfold ovArr at hs HW1 ⊢
  simp only at hs HW1 ⊢
  clear ha hb hb1 hW1
  go_enter Tryz.func19, Tryz.ntmps19
  go_wp2_with (go_at_call 24; refine hs.mono ?_; clear hs; rintro e2 w2 ⟨rfl, hb2⟩; rw [← HW1.out] at hb2)
  go_ret
  exact ⟨rfl, HB1.out.trans (hb2.mono HB1.out.size)⟩
end Go.Proofs.YtibndaianhlcaaaGreatDoor
