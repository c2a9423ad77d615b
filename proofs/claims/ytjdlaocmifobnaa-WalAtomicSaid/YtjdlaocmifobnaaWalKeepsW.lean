/- The walk of the law WalKeeps. -/
import Derived.Test.YtjdlaocmifobnaaWalHomesW
namespace Go.Proofs.Ytjdlaocmifobnaa
open Go.RowKit Go.ChangeShapes Go.WideShapes
set_option linter.unusedVariables false
set_option linter.unusedSimpArgs false

/-- A log is opened on a disk at rest that tells f. -/
theorem Run.openT {w wi : World} {pd n : Nat} {F : Nat → Prop} {D : DiskM} {f : Nat → List UInt8} (r : Run w wi F pd (n + 24) D) (hr : Rest (n + 24) D) (ha : D.armed = false) (ht : Tells (n + 24) 0 n f D.now) :
    Calls Try.prog 16 #[.pointer (some ⟨pd, 0, none⟩), .int .i64 0, .int .i64 (n : Int)] wi fun e w' => ∃ p' go' gs' L', e = .returned (.tuple #[.pointer (some ⟨p', 0, none⟩), .int .i64 0]) ∧ Below wi.heap.size wi w' ∧ Played w w' F p' go' gs' pd n L' D ∧ L'.staged = [] ∧ ∀ i, i < 24 → L'.val D (n + i) = f (n + i) := by
  obtain ⟨L, hok, hb, hn, hov, hom, hc, hf⟩ := ht
  have hn4 := hok.n4
  have hn255 := hok.n255
  have hoc := open_coded hc hok hr.up
  rw [hb, hn] at hoc
  rw [hn] at hn4 hn255
  have hop := open_any r.disk 0 n (by unfold mayB; rw [decide_eq_true_eq]; omega)
  rw [hoc] at hop
  refine hop.mono ?_
  rintro e w3 ⟨hb3, _, hl3⟩
  obtain ⟨p', go', gs', rfl, hlog, hft⟩ := hl3 _ rfl
  refine ⟨p', go', gs', _, rfl, hb3, ⟨⟨r.below.trans (hb3.mono r.below.size), ⟨hlog, r.disk.free hb3, fun k hk hf => ?_⟩, fun k hk => ?_⟩, ⟨hlog.ok, rfl, hr, hc.re hb.symm hn.symm rfl rfl rfl rfl, hov, List.Pairwise.nil, hlog.overOk, hlog.stagedOk, by simp only [costN, List.length_nil]; omega⟩, ha, rfl, rfl⟩, rfl, fun i hi => ?_⟩
  · have h1 := hft k hk
    have h2 := r.disk.1 k hf
    omega
  · rcases hk with hk | hk
    · exact r.foot k hk
    · have h1 := hft k hk
      have h2 := r.below.size
      omega
  · have h1 := hf (n + i) (by have := home_behind (L := L) (N := n + 24) hb (by rw [hn]) hi; rw [hn] at this; exact this)
    rw [← h1]
    rfl
theorem Played.tells {w wi : World} {p go gs pd n : Nat} {L : LogM} {F : Nat → Prop} {D : DiskM} (h : Played w wi F p go gs pd n L D) : Tells (n + 24) 0 n (told L D.now) D.now := by
  have := h.inv.tells
  rw [h.base, h.size] at this
  exact this
/-- A disk at rest that lost power, and has power again. -/
theorem Rest.again {N : Nat} {D : DiskM} (h : Rest N D) (k : UInt64) : (D.crash k).up = false ∧ Rest N (D.crash k).start ∧ (D.crash k).start.now = D.now ∧ (D.crash k).start.armed = false := by
  have h0 := h.off (P := fun S => S = D.now) rfl k
  refine ⟨h0.up, ⟨⟨h0.ok.pos, h0.ok.most, h0.ok.safeLen, h0.ok.nowLen, h0.ok.safe, h0.ok.now, h0.ok.loose⟩, rfl, h0.loose, h0.same.symm⟩, h0.same.trans h0.safe, h0.armed⟩

section
set_option maxRecDepth 100000 in
set_option maxHeartbeats 4000000 in
theorem keeps_law (w : World) (n : Int) (hn : -9223372036854775808 ≤ n ∧ n ≤ 9223372036854775807) {A : Option Addr} {m c : Nat} {l : List WOp} (hl : l.length = m) (hS : Slc w w.heap.size 5 A m c (l.flatMap wopCells)) (hO : ∀ o ∈ l, WOpOk o)
    {A2 : Option Addr} {m2 c2 : Nat} {l2 : List WOp} (hl2 : l2.length = m2) (hS2 : Slc w w.heap.size 5 A2 m2 c2 (l2.flatMap wopCells)) (hO2 : ∀ o ∈ l2, WOpOk o) (kp : UInt64) :
    Calls Try.prog 5 #[.int .i64 n, .slice A m c, .slice A2 m2 c2, .int .u64 (kp.toNat : Int)] w fun e w' => e = .returned (.bool true) ∧ Below w.heap.size w w' := by
  have hcm : m2 ≤ 9223372036854775807 := by have h1 := hS2.le; have h2 := hS2.cmax; simp only [maxLen] at h2; omega
  have hk := madeK_le n
  have HMADE := Lib.hid (fun (wi : World) (hb : Below w.heap.size w wi) => made_played n hn hb)
  have HPL := Lib.hid (And.intro hl (And.intro hS hO))
  have HL := Lib.hid hl2
  have HS := Lib.hid hS2
  have HO := Lib.hid hO2
  generalize madeK n = K at *
  clear hl hS hO hl2 hS2 hO2
  go_enter Try.func5, Try.ntmps5
  go_wp2_with fail
  refine (wshown_any w).mono ?_
  rintro e w1 ⟨rfl, hb1⟩
  go_wp2_with fail
  refine (HMADE.out w1 hb1).mono ?_
  rintro e w2 ⟨p, go, gs, pd, F2, rfl, P2⟩
  have HP2 := Lib.hid P2
  clear hb1 P2
  go_wp2_with fail
  refine (play_any HP2.out HPL.out.1 HPL.out.2.1 HPL.out.2.2).mono ?_
  rintro e w3 ⟨rfl, F3, L3, D3, P3⟩
  have HP3 := Lib.hid P3
  clear P3
  go_wp2_with fail
  refine HP3.out.drop.mono ?_
  rintro e w4 ⟨rfl, P4⟩
  obtain ⟨L4, hL4⟩ : ∃ L4 : LogM, L4 = { L3 with staged := [] } := ⟨_, rfl⟩
  rw [← hL4] at P4
  have HP4 := Lib.hid P4
  have HS4 := Lib.hid (show L4.staged = [] by rw [hL4])
  clear P4 hL4
  go_wp2_with fail
  refine HP4.out.homes.mono ?_
  rintro e w5 ⟨rfl, _, P5⟩
  obtain ⟨was, hwas⟩ : ∃ was, was = homesB K (L4.val D3) := ⟨_, rfl⟩
  have HWAS := Lib.hid hwas
  have HP5 := Lib.hid P5
  rw [← hwas]
  clear hwas P5
  go_wp2_with fail
  go_loopw [14] (fun i wr => ∃ (k : Nat) (L' : LogM), k ≤ m2 ∧ k ≤ 30 ∧ i = .int .i64 (k : Int) ∧ Played w wr F3 p go gs pd K L' D3) (fun i _ => m2 - (intOf i).toNat)
  case atStart => exact ⟨0, L4, by omega, by omega, rfl, HP5.out⟩
  case round =>
    obtain ⟨k, L', hk, hk30, rfl, hP⟩ := hrel
    by_cases hlt : k < m2 ∧ k < 30
    · obtain ⟨hlt, hlt30⟩ := hlt
      obtain ⟨b, off, rfl, hbw, hkl, x0, x1, x2, x3, x4⟩ := wop_cells (HS.out.below hP.run.below) HL.out hlt
      have hok := HO.out l2[k] (List.getElem_mem hkl)
      generalize hoe : l2[k] = o at *
      have HOE := Lib.hid hoe
      have HOK := Lib.hid hok
      have HP := Lib.hid hP
      clear hok hoe hP
      have hcells : ∀ W, Below w.heap.size w W → (W.cell? ⟨b, off + k * 5, none⟩ = some (.int .i64 o.kind) ∧ W.cell? ⟨b, off + k * 5 + 1, none⟩ = some (.int .i64 o.a) ∧ W.cell? ⟨b, off + k * 5 + 2, none⟩ = some (.int .i64 o.n) ∧
          W.cell? ⟨b, off + k * 5 + 3, none⟩ = some (.int .u8 (o.c.toNat : Int)) ∧ W.cell? ⟨b, off + k * 5 + 4, none⟩ = some (.int .u64 (o.keep.toNat : Int))) := fun W hW => by
        obtain ⟨b', off', e, _, hkl', y0, y1, y2, y3, y4⟩ := wop_cells (HS.out.below hW) HL.out hlt
        injection e with e
        injection e with e1 e2 _
        subst e1 e2
        rw [HOE.out] at y0 y1 y2 y3 y4
        exact ⟨y0, y1, y2, y3, y4⟩
      have HCELLS := Lib.hid hcells
      have hbd := HP.out.run.below.drew
      obtain ⟨sm, hsm⟩ : ∃ sm, sm = smallN o.a 24 := ⟨_, rfl⟩
      have hsm24 : sm < 24 := by rw [hsm]; exact smallN_lt _ (by decide)
      have hsml := fun W : World => small_any o.a HOK.out.a 24 (by decide) (by decide) W
      rw [← hsm] at hsml
      have HSM := Lib.hid hsml
      have hwr : IntKind.i64.wrap ((K : Int) + (sm : Int)) = (K : Int) + (sm : Int) := IntWalk.i64_in _ (by omega)
      clear hcells hsm hsml
      go_wp2_with fail
      go_region_held3 (fun W => W.cell? ⟨b, off + k * 5, none⟩ = some (.int .i64 o.kind) ∧ W.cell? ⟨b, off + k * 5 + 1, none⟩ = some (.int .i64 o.a) ∧ W.cell? ⟨b, off + k * 5 + 2, none⟩ = some (.int .i64 o.n) ∧
          W.cell? ⟨b, off + k * 5 + 3, none⟩ = some (.int .u8 (o.c.toNat : Int)) ∧ W.cell? ⟨b, off + k * 5 + 4, none⟩ = some (.int .u64 (o.keep.toNat : Int)))
        (first | exact HCELLS.out _ (by assumption) | exact HCELLS.out _ hbd)
        (first | (go_at_call 13; refine (HSM.out _).mono ?_; rintro e w4 ⟨rfl, rfl⟩) | (go_at_call 20; refine (full_lit _ o.c rfl _).mono ?_; rintro e w5 ⟨g, rfl, hnf⟩; have hbw5 : Below w.heap.size w w5 := hbd.trans (hnf.below.mono hbd.size)) | (go_at_call 19; refine (HP.out.drew.stage hnf hsm24).mono ?_; rintro e w6 ⟨E, hE, rfl, hEs, hP6⟩; clear hEs; have hbw6 : Below w.heap.size w w6 := hP6.run.below))
      have HP6 := Lib.hid hP6
      clear hP6 hE
      go_wp2_with fail
      exact ⟨⟨k + 1, _, by omega, by omega, by go_num, HP6.out⟩, by simp [intOf]; omega⟩
    · have hk2 : m2 ≤ k ∨ (k < m2 ∧ k = 30) := by omega
      have HP := Lib.hid hP
      have hag := HP.out.inv.rest.again kp
      obtain ⟨Dc, hDc⟩ : ∃ Dc, Dc = D3.crash kp := ⟨_, rfl⟩
      rw [← hDc] at hag
      have HDC := Lib.hid hDc
      have HAG := Lib.hid hag
      have htl := HP4.out.tells
      rw [← HAG.out.2.2.1] at htl
      have HTL := Lib.hid htl
      have HLOO := Lib.hid HAG.out.2.1.loose
      clear hlt hP hDc hag htl
      rcases hk2 with hk2 | ⟨hk2, rfl⟩
      all_goals
        go_wp2_with fail
        refine (crashAny HP.out.run.wal.disk kp).mono ?_
        rintro e w6 ⟨rfl, hs6, hd6⟩
        rw [← HDC.out] at hd6
        have HR6 := Lib.hid (HP.out.run.dstep hs6 hd6)
        clear hs6 hd6
        go_wp2_with fail
        refine (lread_off HR6.out.wal.log HP.out.inv.alive HR6.out.wal.disk (K : Int) (by omega) (HP.out.behind (i := 0) (by decide)) HAG.out.1).mono ?_
        rintro e w7 ⟨rfl, hl7, hs7⟩
        have HR7 := Lib.hid (HR6.out.lstep hs7 hl7)
        clear hs7 hl7
        go_wp2_with fail
        have hcm := HR7.out.commit (by rw [show Dc.loose = [] from HLOO.out]; exact Nat.zero_le _) HP.out.inv.cost
        rw [show commitR (K + 24) { L' with dead := true } Dc = (40, { L' with dead := true }, Dc) by unfold commitR; rw [if_pos rfl]] at hcm
        have HCM := Lib.hid hcm
        clear hcm
        refine HCM.out.mono ?_
        rintro e w8 ⟨rfl, F8, R8⟩
        have HR8 := Lib.hid (show WRun w w8 F8 p go gs pd (K + 24) { L' with dead := true } Dc from R8)
        clear R8
        go_wp2_with fail
        refine (start_any HR8.out.wal.disk).mono ?_
        rintro e w9 ⟨rfl, hs9, hd9⟩
        have HR9 := Lib.hid (HR8.out.dstep hs9 hd9)
        clear hs9 hd9
        go_wp2_with fail
        refine (full_lit 1 1 rfl _).mono ?_
        rintro e w10 ⟨g, rfl, hnf⟩
        go_wp2_with fail
        have hst := HR9.out.stageFull hnf (K : Int) (by omega)
        rw [show LogM.stageE { L' with dead := true } (K + 24) (K : Int) 128 = 40 by unfold LogM.stageE; rw [if_pos rfl]] at hst
        have HST := Lib.hid hst
        clear hst hnf
        refine HST.out.mono ?_
        rintro e w11 ⟨rfl, R11⟩
        have HR11 := Lib.hid R11
        clear R11
        go_wp2_with fail
        refine (HR11.out.run.openT HAG.out.2.1 HAG.out.2.2.2 HTL.out).mono ?_
        rintro e w12 ⟨p12, go12, gs12, L12, rfl, _, P12, hs12, hv12⟩
        have HP12 := Lib.hid P12
        have hw12 : homesB K (L12.val Dc.start) = was := by
          rw [HWAS.out]
          refine homesB_congr fun i hi => (hv12 i hi).trans ?_
          rw [HAG.out.2.2.1, val_told, HS4.out]
          rfl
        have HW12 := Lib.hid hw12
        clear P12 hs12 hv12 hw12
        go_wp2_with fail
        refine HP12.out.homes.mono ?_
        rintro e w13 ⟨rfl, _, P13⟩
        rw [HW12.out]
        have HB13 := Lib.hid P13.run.below
        clear P13
        go_wp2_with fail
        go_ret
        exact ⟨rfl, HB13.out⟩
end
set_option maxRecDepth 100000 in
theorem WalKeeps_walk {H : Type} {enc : TypeId × Value → H} (W : World) (base : Nat) (v0 v1 v2 v3 : Value) (d0 d1 d2 d3 : DataW H) (p0 p1 p2 p3 : List MemPlace)
    (o0 : Value.okWide Try.prog W .any base 3 v0) (o1 : Value.okWide Try.prog W .any base 22 v1) (o2 : Value.okWide Try.prog W .any base 22 v2) (o3 : Value.okWide Try.prog W .any base 44 v3)
    (k0 : DataW.Trod enc Try.prog W 0 (fun _ => true) true 3 v0 d0 p0) (k1 : DataW.Trod enc Try.prog W 0 (fun _ => true) true 22 v1 d1 p1) (k2 : DataW.Trod enc Try.prog W 0 (fun _ => true) true 22 v2 d2 p2) (k3 : DataW.Trod enc Try.prog W 0 (fun _ => true) true 44 v3 d3 p3)
    (hsz : (DataW.weightsEach Try.prog [3, 22, 22, 44] [d0, d1, d2, d3]).all (· ≤ reachBytes) = true) :
    Calls Try.prog 5 #[v0, v1, v2, v3] W fun e w' => e = .returned (.bool true) ∧ Below W.heap.size W w' := by
  obtain ⟨A1, n1, c1, l1, rfl, hl1, hS1, hO1⟩ := open_wops o1 k1
  obtain ⟨A2, n2, c2, l2, rfl, hl2, hS2, hO2⟩ := open_wops o2 k2
  obtain ⟨x, rfl, rfl, rfl, wx⟩ := open_int Try.underlying3 o0 k0
  obtain ⟨y, rfl, rfl, rfl, wy⟩ := open_int Try.underlying44 o3 k3
  obtain ⟨kp, rfl⟩ := u64_of_wf wy
  exact keeps_law W x (int_wf wx) hl1 hS1 hO1 hl2 hS2 hO2 kp
end Go.Proofs.Ytjdlaocmifobnaa
