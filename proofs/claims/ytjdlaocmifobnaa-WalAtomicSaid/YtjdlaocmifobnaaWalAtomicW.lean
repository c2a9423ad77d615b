/- The walk of the law WalAtomic. -/
import Derived.Test.YtjdlaocmifobnaaWalAtomicP
namespace Go.Proofs.Ytjdlaocmifobnaa
open Go.RowKit Go.ChangeShapes Go.WideShapes
set_option linter.unusedVariables false
set_option linter.unusedSimpArgs false
theorem home_far_at {M : LogM} {K k : Nat} (hb : M.base = 0) (hn : M.n = K) (hk : homeB (K + 24) M (k : Int) = true) : ∃ i, k = K + i ∧ i < 24 := by
  unfold homeB at hk
  rw [decide_eq_true_eq, hb, hn] at hk
  exact ⟨k - K, by omega, by omega⟩
section
set_option maxRecDepth 100000 in
set_option maxHeartbeats 16000000 in
theorem atomic_law (w : World) (n : Int) (hn : -9223372036854775808 ≤ n ∧ n ≤ 9223372036854775807) {A : Option Addr} {m c : Nat} {l : List WOp} (hl : l.length = m) (hS : Slc w w.heap.size 5 A m c (l.flatMap wopCells)) (hO : ∀ o ∈ l, WOpOk o)
    {A2 : Option Addr} {m2 c2 : Nat} {l2 : List WOp} (hl2 : l2.length = m2) (hS2 : Slc w w.heap.size 5 A2 m2 c2 (l2.flatMap wopCells)) (hO2 : ∀ o ∈ l2, WOpOk o) (after : Int) (haf : -9223372036854775808 ≤ after ∧ after ≤ 9223372036854775807) (kp : UInt64) {A3 : Option Addr} {m3 c3 : Nat} {l3 : List UInt64} (hS3 : Slc w w.heap.size 1 A3 m3 c3 (l3.map fun z => Value.int .u64 (z.toNat : Int))) :
    Calls Try.prog 6 #[.int .i64 n, .slice A m c, .slice A2 m2 c2, .int .i64 after, .int .u64 (kp.toNat : Int), .slice A3 m3 c3] w fun e w' => e = .returned (.bool true) ∧ Below w.heap.size w w' := by
  have hcm : m2 ≤ 9223372036854775807 := by have h1 := hS2.le; have h2 := hS2.cmax; simp only [maxLen] at h2; omega
  have hcm3 : m3 ≤ 9223372036854775807 := by have h1 := hS3.le; have h2 := hS3.cmax; simp only [maxLen] at h2; omega
  have HS3 := Lib.hid hS3
  have HSMA := Lib.hid (fun W : World => small_any after haf 60 (by decide) (by decide) W)
  obtain ⟨af, haf2⟩ : ∃ af, af = smallN after 60 := ⟨_, rfl⟩
  have haf60 : af < 60 := by rw [haf2]; exact smallN_lt _ (by decide)
  have HAF := Lib.hid haf2
  have hk := madeK_le n
  have HMADE := Lib.hid (fun (wi : World) (hb : Below w.heap.size w wi) => made_played n hn hb)
  have HPL := Lib.hid (And.intro hl (And.intro hS hO))
  have HL := Lib.hid hl2
  have HS := Lib.hid hS2
  have HO := Lib.hid hO2
  generalize madeK n = K at *
  clear hl hS hO hl2 hS2 hO2 hS3 haf2
  go_enter Try.func6, Try.ntmps6
  go_wp2_with fail
  refine (wshown_any w).mono ?_
  rintro e w1 ⟨rfl, hb1⟩
  go_wp2_with fail
  refine (HMADE.out w1 hb1).mono ?_
  rintro e w2 ⟨p, go, gs, pd, F2, rfl, P2⟩
  have HP2 := Lib.hid P2
  clear hb1 P2
  go_wp2_with fail
  refine (play_any HP2.out HPL.out.1 HPL.out.2.1 HPL.out.2.2).mono ?_
  rintro e w3 ⟨rfl, F3, L3, D3, P3⟩
  have HP3 := Lib.hid P3
  clear P3
  go_wp2_with fail
  refine HP3.out.drop.mono ?_
  rintro e w4 ⟨rfl, P4⟩
  obtain ⟨L4, hL4⟩ : ∃ L4 : LogM, L4 = { L3 with staged := [] } := ⟨_, rfl⟩
  rw [← hL4] at P4
  have HP4 := Lib.hid P4
  have HS4 := Lib.hid (show L4.staged = [] by rw [hL4])
  clear P4 hL4
  go_wp2_with fail
  refine HP4.out.homes.mono ?_
  rintro e w5 ⟨rfl, _, P5⟩
  obtain ⟨was, hwas⟩ : ∃ was, was = homesB K (L4.val D3) := ⟨_, rfl⟩
  have HWAS := Lib.hid hwas
  have HP5 := Lib.hid P5
  rw [← hwas]
  clear hwas P5
  go_wp2_with fail
  go_loopw [18] (fun i wr => ∃ (k : Nat) (L' : LogM), k ≤ m2 ∧ k ≤ 30 ∧ i = .int .i64 (k : Int) ∧ Played w wr F3 p go gs pd K L' D3 ∧ L'.over = L4.over) (fun i _ => m2 - (intOf i).toNat)
  case atStart => exact ⟨0, L4, by omega, by omega, rfl, HP5.out, rfl⟩
  case round =>
    obtain ⟨k, L', hk, hk30, rfl, hP, hov⟩ := hrel
    have HOV := Lib.hid hov
    clear hov
    by_cases hlt : k < m2 ∧ k < 30
    · obtain ⟨hlt, hlt30⟩ := hlt
      obtain ⟨b, off, rfl, hbw, hkl, x0, x1, x2, x3, x4⟩ := wop_cells (HS.out.below hP.run.below) HL.out hlt
      have hok := HO.out l2[k] (List.getElem_mem hkl)
      generalize hoe : l2[k] = o at *
      have HOE := Lib.hid hoe
      have HOK := Lib.hid hok
      have HP := Lib.hid hP
      clear hok hoe hP
      have hcells : ∀ W, Below w.heap.size w W → (W.cell? ⟨b, off + k * 5, none⟩ = some (.int .i64 o.kind) ∧ W.cell? ⟨b, off + k * 5 + 1, none⟩ = some (.int .i64 o.a) ∧ W.cell? ⟨b, off + k * 5 + 2, none⟩ = some (.int .i64 o.n) ∧
          W.cell? ⟨b, off + k * 5 + 3, none⟩ = some (.int .u8 (o.c.toNat : Int)) ∧ W.cell? ⟨b, off + k * 5 + 4, none⟩ = some (.int .u64 (o.keep.toNat : Int))) := fun W hW => by
        obtain ⟨b', off', e, _, hkl', y0, y1, y2, y3, y4⟩ := wop_cells (HS.out.below hW) HL.out hlt
        injection e with e
        injection e with e1 e2 _
        subst e1 e2
        rw [HOE.out] at y0 y1 y2 y3 y4
        exact ⟨y0, y1, y2, y3, y4⟩
      have HCELLS := Lib.hid hcells
      have hbd := HP.out.run.below.drew
      obtain ⟨sm, hsm⟩ : ∃ sm, sm = smallN o.a 24 := ⟨_, rfl⟩
      have hsm24 : sm < 24 := by rw [hsm]; exact smallN_lt _ (by decide)
      have hsml := fun W : World => small_any o.a HOK.out.a 24 (by decide) (by decide) W
      rw [← hsm] at hsml
      have HSM := Lib.hid hsml
      have hwr : IntKind.i64.wrap ((K : Int) + (sm : Int)) = (K : Int) + (sm : Int) := IntWalk.i64_in _ (by omega)
      clear hcells hsm hsml
      go_wp2_with fail
      go_region_held3 (fun W => W.cell? ⟨b, off + k * 5, none⟩ = some (.int .i64 o.kind) ∧ W.cell? ⟨b, off + k * 5 + 1, none⟩ = some (.int .i64 o.a) ∧ W.cell? ⟨b, off + k * 5 + 2, none⟩ = some (.int .i64 o.n) ∧
          W.cell? ⟨b, off + k * 5 + 3, none⟩ = some (.int .u8 (o.c.toNat : Int)) ∧ W.cell? ⟨b, off + k * 5 + 4, none⟩ = some (.int .u64 (o.keep.toNat : Int)))
        (first | exact HCELLS.out _ (by assumption) | exact HCELLS.out _ hbd)
        (first | (go_at_call 13; refine (HSM.out _).mono ?_; rintro e w4 ⟨rfl, rfl⟩) | (go_at_call 20; refine (full_lit _ o.c rfl _).mono ?_; rintro e w5 ⟨g, rfl, hnf⟩; have hbw5 : Below w.heap.size w w5 := hbd.trans (hnf.below.mono hbd.size)) | (go_at_call 19; refine (HP.out.drew.stage hnf hsm24).mono ?_; rintro e w6 ⟨E, hE, rfl, hEs, hP6⟩; clear hEs; have hbw6 : Below w.heap.size w w6 := hP6.run.below))
      have HP6 := Lib.hid hP6
      clear hP6 hE
      go_wp2_with fail
      exact ⟨⟨k + 1, _, by omega, by omega, by go_num, HP6.out, (HP.out.inv.stageI (HP.out.behind hsm24) (fulls_length o.c)).2.2.2.2.1.trans HOV.out⟩, by simp [intOf]; omega⟩
    · have hk2 : m2 ≤ k ∨ (k < m2 ∧ k = 30) := by omega
      have HP := Lib.hid hP
      clear hlt hP
      obtain ⟨will, hwill⟩ : ∃ will, will = homesB K (L'.val D3) := ⟨_, rfl⟩
      have HWILL := Lib.hid hwill
      have hof := commit_off HP.out.inv (af : Int) kp kp
      rw [HP.out.base, HP.out.size] at hof
      have htold : ∀ i, told L' D3.now i = told L4 D3.now i := fun i => by unfold told; rw [HOV.out]
      obtain ⟨R, hR⟩ : ∃ R, R = commitR (K + 24) L' (D3.arm (af : Int) kp) := ⟨_, rfl⟩
      rw [← hR] at hof
      obtain ⟨E, hE⟩ : ∃ E, E = R.1 := ⟨_, rfl⟩
      rw [← hE] at hof
      obtain ⟨Pd, hPd⟩ : ∃ Pd : List (List UInt8) → Prop, Pd = fun S => (E ≠ 0 ∧ Tells (K + 24) 0 K (told L' D3.now) S) ∨ Tells (K + 24) 0 K (L'.val D3) S := ⟨_, rfl⟩
      rw [← hPd] at hof
      have HOF := Lib.hid hof.2
      have HEE := Lib.hid hE
      have HRR := Lib.hid hR
      have HPD := Lib.hid hPd
      have hE2 := hof.1
      clear hof hE hR hPd hwill
      have hfinal : ∀ (g : Nat → List UInt8), ((E ≠ 0 ∧ g = told L' D3.now) ∨ g = L'.val D3) → (homesB K g = will ∨ (E ≠ 0 ∧ homesB K g = was)) := fun g hg => by
        rcases hg with ⟨h1, rfl⟩ | rfl
        · refine .inr ⟨h1, ?_⟩
          rw [HWAS.out]
          refine homesB_congr fun i hi => ?_
          rw [htold, val_told, HS4.out]
          rfl
        · exact .inl HWILL.out.symm
      have HFIN := Lib.hid hfinal
      have hPdT : ∀ S, Pd S → ∃ g, ((E ≠ 0 ∧ g = told L' D3.now) ∨ g = L'.val D3) ∧ Tells (K + 24) 0 K g S ∧ ∀ T, Tells (K + 24) 0 K g T → Pd T := fun S hS => by
        rw [HPD.out] at hS ⊢
        rcases hS with ⟨h1, h2⟩ | h2
        · exact ⟨_, .inl ⟨h1, rfl⟩, h2, fun T hT => .inl ⟨h1, hT⟩⟩
        · exact ⟨_, .inr rfl, h2, fun T hT => .inr hT⟩
      have HPT := Lib.hid hPdT
      clear hfinal hPdT htold
      rcases hk2 with hk2 | ⟨hk2, rfl⟩
      all_goals
        go_wp2_with fail
        refine HP.out.homes.mono ?_
        rintro e w6 ⟨rfl, _, P6⟩
        rw [← HWILL.out]
        have HP6 := Lib.hid P6
        clear P6
        go_wp2_with fail
        refine (HSMA.out _).mono ?_
        rintro e w7 ⟨rfl, rfl⟩
        rw [← HAF.out]
        go_wp2_with fail
        refine (arm_any HP6.out.run.wal.disk (af : Int) kp).mono ?_
        rintro e w7 ⟨rfl, hs7, hd7⟩
        have HR7 := Lib.hid (HP6.out.run.dstep hs7 hd7)
        clear hs7 hd7
        go_wp2_with fail
        have hcm := HR7.out.commit (HP6.out.inv.arm _ _).loose HP6.out.inv.cost
        rw [← HRR.out, ← HEE.out] at hcm
        have HCM := Lib.hid hcm
        clear hcm
        refine HCM.out.mono ?_
        rintro e w8 ⟨rfl, F8, R8⟩
        obtain ⟨D8, hD8⟩ : ∃ D8, D8 = R.2.2 := ⟨_, rfl⟩
        rw [← hD8] at R8
        have HR8 := Lib.hid R8.run
        have hof8 := HOF.out
        rw [← hD8] at hof8
        have HOF8 := Lib.hid hof8
        clear R8 hD8 hof8
        rcases hE2 with rfl | rfl
        all_goals
          go_wp2_with fail
          refine (arm_any HR8.out.disk (-1) 0).mono ?_
          rintro e w9 ⟨rfl, hs9, hd9⟩
          have HR9 := Lib.hid (HR8.out.step hs9 hd9)
          clear hs9 hd9
          go_wp2_with fail
          refine (crashAny HR9.out.disk kp).mono ?_
          rintro e w10 ⟨rfl, hs10, hd10⟩
          have HR10 := Lib.hid (HR9.out.step hs10 hd10)
          clear hs10 hd10
          go_wp2_with fail
          go_loopw [22] (fun i wr => ∃ (t : Nat) (Ft : Nat → Prop) (Dt : DiskM), t ≤ m3 ∧ t ≤ 5 ∧ i = .int .i64 (t : Int) ∧ Run w wr Ft pd (K + 24) Dt ∧ DOff (K + 24) Pd Dt) (fun i _ => m3 - (intOf i).toNat)
          case atStart => exact ⟨0, F8, _, by omega, by omega, rfl, HR10.out, HOF8.out⟩
          case round =>
            obtain ⟨t, Ft, Dt, ht, ht5, rfl, hR, hof⟩ := hrel
            obtain ⟨hrest, hpd, harm, _⟩ := hof.start
            obtain ⟨g, hg, hT, hback⟩ := HPT.out _ hpd
            have HRT := Lib.hid hR
            have HST := Lib.hid (And.intro hrest (And.intro harm hT))
            have HBK := Lib.hid (And.intro hg hback)
            clear hR hof hrest hpd harm hg hT hback
            by_cases htl : t < m3 ∧ t < 5
            · obtain ⟨htl, htl5⟩ := htl
              have hcells : ∃ (b3 off3 : Nat) (a : UInt64), A3 = some ⟨b3, off3, none⟩ ∧ ∀ W, Below w.heap.size w W → W.cell? ⟨b3, off3 + t, none⟩ = some (.int .u64 (a.toNat : Int)) := by
                obtain ⟨b3, off3, e3, hb3, hc3⟩ := HS3.out.at_ (by omega)
                have hlen := HS3.out.len
                simp only [List.length_map, Nat.mul_one] at hlen
                have htlen : t < l3.length := by omega
                refine ⟨b3, off3, l3[t], e3, fun W hW => ?_⟩
                exact (hW.cell (p := ⟨b3, off3 + t, none⟩) hb3).trans (hc3 t _ (by simp [List.getElem?_map, List.getElem?_eq_getElem htlen]))
              obtain ⟨b3, off3, a, rfl, hcell⟩ := hcells
              have HCELL := Lib.hid hcell
              clear hcell
              go_wp2_with fail
              refine (start_any HRT.out.disk).mono ?_
              rintro e w11 ⟨rfl, hs11, hd11⟩
              have HR11 := Lib.hid (HRT.out.step hs11 hd11)
              clear hs11 hd11
              go_wp2_with fail
              refine (HR11.out.openT HST.out.1 HST.out.2.1 HST.out.2.2).mono ?_
              rintro e w12 ⟨p12, go12, gs12, L12, rfl, _, P12, hs12, hv12⟩
              have HP12 := Lib.hid P12
              have HV12 := Lib.hid (And.intro hs12 hv12)
              clear P12 hs12 hv12
              obtain ⟨ar, har⟩ : ∃ ar, ar = a.toNat % 30 := ⟨_, rfl⟩
              have har30 : ar < 30 := by omega
              have hr1 : (a.toNat : Int).tmod 30 = (ar : Int) := by rw [Int.tmod_eq_emod_of_nonneg (by omega)]; omega
              have hr2 : (a.toNat : Int) % 30 = (ar : Int) := by omega
              have hcw := HCELL.out _ HP12.out.run.below.drew
              clear har
              go_wp2_with fail
              have hai := home_off HP12.out.inv (ar : Int) a (UInt64.ofNat (a.toNat / 128))
              rw [HP12.out.base, HP12.out.size] at hai
              obtain ⟨R13, hR13⟩ : ∃ R13, R13 = homeR (K + 24) L12 (Dt.start.arm (ar : Int) a) := ⟨_, rfl⟩
              rw [← hR13] at hai
              obtain ⟨E13, hE13⟩ : ∃ E13, E13 = R13.1 := ⟨_, rfl⟩
              rw [← hE13] at hai
              have hpd13 : DOff (K + 24) Pd ((R13.2.2.arm (-1) 0).crash (UInt64.ofNat (a.toNat / 128))) := hai.2.mono fun S _ hS => HBK.out.2 S (hS.mono fun M h1 h2 i hi => by
                have hf := home_far_at h1 h2 hi
                obtain ⟨i', rfl, hi'⟩ := hf
                rw [← HV12.out.2 i' hi', val_told, HV12.out.1]
                rfl)
              have hE13c := hai.1
              have HPD13 := Lib.hid hpd13
              have HR13 := Lib.hid hR13
              have HE13 := Lib.hid hE13
              have hks : (((UInt64.ofNat (a.toNat / 128)).toNat : Nat) : Int) = (a.toNat : Int) / 128 := by
                have := a.toNat_lt
                rw [UInt64.toNat_ofNat_of_lt' (show a.toNat / 128 < 2 ^ 64 by omega)]
                omega
              have HKS := Lib.hid hks
              clear hai hpd13 hR13 hE13 hks
              refine region_tail 11 (by kernel_rfl) (by kernel_rfl) ?_
              simp only [List.take_succ_cons, List.take_zero, List.drop_succ_cons, List.drop_zero]
              repeat still_step
              refine wpStill_nil ?_
              go_wp2_with fail
              refine (arm_any HP12.out.drew.run.wal.disk (ar : Int) a).mono ?_
              rintro e w13 ⟨rfl, hs13, hd13⟩
              have HR13b := Lib.hid (HP12.out.drew.run.dstep hs13 hd13)
              clear hs13 hd13
              go_wp2_with fail
              have hhm := HR13b.out.home (HP12.out.inv.arm _ _).loose
              rw [← HR13.out, ← HE13.out] at hhm
              have HHM := Lib.hid hhm
              clear hhm
              refine HHM.out.mono ?_
              rintro e w14 ⟨rfl, F14, R14⟩
              have HR14 := Lib.hid R14.run
              clear R14
              rcases hE13c with rfl | rfl
              all_goals
                go_wp2_with fail
                refine (arm_any HR14.out.disk (-1) 0).mono ?_
                rintro e w15 ⟨rfl, hs15, hd15⟩
                have HR15 := Lib.hid (HR14.out.step hs15 hd15)
                clear hs15 hd15
                have hcw15 := HCELL.out _ HR15.out.below
                go_wp2_with fail
                rw [← HKS.out]
                refine (crashAny HR15.out.disk (UInt64.ofNat (a.toNat / 128))).mono ?_
                rintro e w16 ⟨rfl, hs16, hd16⟩
                have HR16 := Lib.hid (HR15.out.step hs16 hd16)
                clear hs16 hd16 hcw15
                go_wp2_with fail
                exact ⟨⟨t + 1, F14, _, by omega, by omega, by go_num, HR16.out, HPD13.out⟩, by simp [intOf]; omega⟩
            · have ht2 : m3 ≤ t ∨ (t < m3 ∧ t = 5) := by omega
              clear htl
              rcases ht2 with ht2 | ⟨ht2, rfl⟩
              all_goals
                go_wp2_with fail
                refine (start_any HRT.out.disk).mono ?_
                rintro e w11 ⟨rfl, hs11, hd11⟩
                have HR11 := Lib.hid (HRT.out.step hs11 hd11)
                clear hs11 hd11
                go_wp2_with fail
                refine (HR11.out.openT HST.out.1 HST.out.2.1 HST.out.2.2).mono ?_
                rintro e w12 ⟨p12, go12, gs12, L12, rfl, _, P12, hs12, hv12⟩
                have HP12 := Lib.hid P12
                have hnow : homesB K (L12.val Dt.start) = homesB K g := homesB_congr hv12
                have HNOW := Lib.hid hnow
                have HFG := Lib.hid (HFIN.out g HBK.out.1)
                have HZ12 := Lib.hid (show ((L12.staged.length : Nat) : Int) = 0 by rw [hs12]; rfl)
                clear P12 hs12 hv12 hnow
                go_wp2_with fail
                refine (staged_any HP12.out.run.wal.log).mono ?_
                rintro e w13 ⟨rfl, rfl⟩
                rw [HZ12.out]
                go_wp2_with fail
                refine HP12.out.homes.mono ?_
                rintro e w14 ⟨rfl, _, P14⟩
                rw [HNOW.out]
                have HBL := Lib.hid P14.run.below
                clear P14
                rcases HFG.out with hfg | ⟨hne, hfg⟩
                · rw [hfg]
                  go_wp2_with fail
                  go_ret
                  exact ⟨rfl, HBL.out⟩
                · rw [hfg]
                  first
                  | exact absurd rfl hne
                  | (by_cases hww : was = will
                     · rw [← hww]
                       go_wp2_with fail
                       go_ret
                       exact ⟨rfl, HBL.out⟩
                     · have hbw : (was == will) = false := by simpa using hww
                       go_wp2_with fail
                       go_ret
                       exact ⟨rfl, HBL.out⟩)
end
set_option maxRecDepth 100000 in
theorem WalAtomic_walk {H : Type} {enc : TypeId × Value → H} (W : World) (base : Nat) (v0 v1 v2 v3 v4 v5 : Value) (d0 d1 d2 d3 d4 d5 : DataW H) (p0 p1 p2 p3 p4 p5 : List MemPlace)
    (o0 : Value.okWide Try.prog W .any base 3 v0) (o1 : Value.okWide Try.prog W .any base 22 v1) (o2 : Value.okWide Try.prog W .any base 22 v2) (o3 : Value.okWide Try.prog W .any base 3 v3) (o4 : Value.okWide Try.prog W .any base 44 v4) (o5 : Value.okWide Try.prog W .any base 49 v5)
    (k0 : DataW.Trod enc Try.prog W 0 (fun _ => true) true 3 v0 d0 p0) (k1 : DataW.Trod enc Try.prog W 0 (fun _ => true) true 22 v1 d1 p1) (k2 : DataW.Trod enc Try.prog W 0 (fun _ => true) true 22 v2 d2 p2) (k3 : DataW.Trod enc Try.prog W 0 (fun _ => true) true 3 v3 d3 p3) (k4 : DataW.Trod enc Try.prog W 0 (fun _ => true) true 44 v4 d4 p4) (k5 : DataW.Trod enc Try.prog W 0 (fun _ => true) true 49 v5 d5 p5)
    (hsz : (DataW.weightsEach Try.prog [3, 22, 22, 3, 44, 49] [d0, d1, d2, d3, d4, d5]).all (· ≤ reachBytes) = true) :
    Calls Try.prog 6 #[v0, v1, v2, v3, v4, v5] W fun e w' => e = .returned (.bool true) ∧ Below W.heap.size W w' := by
  obtain ⟨A1, n1, c1, l1, rfl, hl1, hS1, hO1⟩ := open_wops o1 k1
  obtain ⟨A2, n2, c2, l2, rfl, hl2, hS2, hO2⟩ := open_wops o2 k2
  obtain ⟨A3, n3, c3, l3, rfl, hS3⟩ := open_u64s o5 k5
  obtain ⟨x, rfl, rfl, rfl, wx⟩ := open_int Try.underlying3 o0 k0
  obtain ⟨y, rfl, rfl, rfl, wy⟩ := open_int Try.underlying3 o3 k3
  obtain ⟨z, rfl, rfl, rfl, wz⟩ := open_int Try.underlying44 o4 k4
  obtain ⟨kp, rfl⟩ := u64_of_wf wz
  exact atomic_law W x (int_wf wx) hl1 hS1 hO1 hl2 hS2 hO2 y (int_wf wy) kp hS3
end Go.Proofs.Ytjdlaocmifobnaa
