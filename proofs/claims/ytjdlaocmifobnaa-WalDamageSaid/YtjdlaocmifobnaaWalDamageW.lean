/- The walk of the law WalDamage. -/
import Derived.Test.YtjdlaocmifobnaaWalDamageP
namespace Go.Proofs.Ytjdlaocmifobnaa
open Go.RowKit Go.ChangeShapes Go.WideShapes
set_option linter.unusedVariables false
set_option linter.unusedSimpArgs false
theorem xor_u8 (x y : UInt8) : bits BinOp.xor IntKind.u8 (x.toNat : Int) (y.toNat : Int) = ((x ^^^ y).toNat : Int) := by
  have h : ∀ z : UInt8, BitVec.ofInt 8 (z.toNat : Int) = z.toBitVec := fun z => by
    apply BitVec.eq_of_toNat_eq
    have := z.toNat_lt
    rw [BitVec.toNat_ofInt]
    show ((z.toNat : Int) % (2 ^ 8 : Nat)).toNat = z.toNat
    omega
  show IntKind.u8.wrap ((BitVec.ofInt 8 (x.toNat : Int) ^^^ BitVec.ofInt 8 (y.toNat : Int)).toNat : Int) = _
  rw [h, h]
  have := (x ^^^ y).toNat_lt
  show IntKind.u8.wrap ((x ^^^ y).toNat : Int) = _
  generalize (x ^^^ y).toNat = m at *
  simp [IntKind.wrap, IntKind.bits, IntKind.signed]
  omega
theorem xor_ne {x y : UInt8} (h : y ≠ 0) : x ^^^ y ≠ x := fun e => h (by
  have h2 : x ^^^ (x ^^^ y) = x ^^^ x := by rw [e]
  rw [← UInt8.xor_assoc, UInt8.xor_self, UInt8.zero_xor] at h2
  exact h2)
section
set_option maxRecDepth 100000 in
set_option maxHeartbeats 4000000 in
theorem damage_law (w : World) (n : Int) (hn : -9223372036854775808 ≤ n ∧ n ≤ 9223372036854775807) {A : Option Addr} {m c : Nat} {l : List WOp} (hl : l.length = m) (hS : Slc w w.heap.size 5 A m c (l.flatMap wopCells)) (hO : ∀ o ∈ l, WOpOk o)
    (at_ : Int) (hat : -9223372036854775808 ≤ at_ ∧ at_ ≤ 9223372036854775807) (by_ : UInt8) :
    Calls Try.prog 3 #[.int .i64 n, .slice A m c, .int .i64 at_, .int .u8 (by_.toNat : Int)] w fun e w' => e = .returned (.bool true) ∧ Below w.heap.size w w' := by
  have hk := madeK_le n
  have HMADE := Lib.hid (fun (wi : World) (hb : Below w.heap.size w wi) => made_played n hn hb)
  have HPL := Lib.hid (And.intro hl (And.intro hS hO))
  generalize madeK n = K at *
  have hsm := fun W : World => small_any at_ hat (K * 128) (by omega) (by omega) W
  have hK15 := hk.2
  rw [show ((K * 128 : Nat) : Int) = (K : Int) * 128 by omega] at hsm
  obtain ⟨q, hq⟩ : ∃ q, q = smallN at_ (K * 128) := ⟨_, rfl⟩
  have hqlt : q < K * 128 := by rw [hq]; exact smallN_lt _ (by omega)
  rw [← hq] at hsm
  have HSM := Lib.hid hsm
  have hmul : IntKind.i64.wrap ((K : Int) * 128) = (K : Int) * 128 := IntWalk.i64_in _ (by omega)
  obtain ⟨pl, hpl⟩ : ∃ pl, pl = q / 128 := ⟨_, rfl⟩
  obtain ⟨j, hj⟩ : ∃ j, j = q % 128 := ⟨_, rfl⟩
  have hplK : pl < K := by omega
  have hj128 : j < 128 := by omega
  have hqd : (q : Int) / 128 = (pl : Int) := by omega
  have hqm : (q : Int) % 128 = (j : Int) := by omega
  have hqt : (q : Int).tdiv 128 = (pl : Int) := by rw [Int.tdiv_eq_ediv_of_nonneg (by omega)]; exact hqd
  have hqr : (q : Int).tmod 128 = (j : Int) := by rw [Int.tmod_eq_emod_of_nonneg (by omega)]; exact hqm
  have HKK := Lib.hid (And.intro hplK hj128)
  clear hl hS hO hsm hq hpl hj hk
  go_enter Try.func3, Try.ntmps3
  go_wp2_with fail
  refine (wshown_any w).mono ?_
  rintro e w1 ⟨rfl, hb1⟩
  go_wp2_with fail
  refine (HMADE.out w1 hb1).mono ?_
  rintro e w2 ⟨p, go, gs, pd, F2, rfl, P2⟩
  have HP2 := Lib.hid P2
  clear hb1 P2
  go_wp2_with fail
  refine (play_any HP2.out HPL.out.1 HPL.out.2.1 HPL.out.2.2).mono ?_
  rintro e w3 ⟨rfl, F3, L3, D3, P3⟩
  have HP3 := Lib.hid P3
  clear P3
  go_wp2_with fail
  refine HP3.out.drop.mono ?_
  rintro e w4 ⟨rfl, P4⟩
  obtain ⟨L4, hL4⟩ : ∃ L4 : LogM, L4 = { L3 with staged := [] } := ⟨_, rfl⟩
  rw [← hL4] at P4
  have HP4 := Lib.hid P4
  have HS4 := Lib.hid (show L4.staged = [] by rw [hL4])
  clear P4 hL4
  go_wp2_with fail
  refine HP4.out.homes.mono ?_
  rintro e w5 ⟨rfl, _, P5⟩
  obtain ⟨was, hwas⟩ : ∃ was, was = homesB K (L4.val D3) := ⟨_, rfl⟩
  have HWAS := Lib.hid hwas
  have HP5 := Lib.hid P5
  rw [← hwas]
  clear hwas P5
  go_wp2_with fail
  refine (HSM.out _).mono ?_
  rintro e w6 ⟨rfl, rfl⟩
  go_wp2_with fail
  have hmay : D3.mayE (K + 24) (pl : Int) = 0 := by unfold DiskM.mayE; rw [if_neg (by simp [HP5.out.inv.rest.up]), if_pos (by have := HKK.out.1; omega)]
  have hrd := readAny HP5.out.run.wal.disk (pl : Int) hmay
  rw [Int.toNat_natCast] at hrd
  obtain ⟨sec, hsec⟩ : ∃ sec, sec = D3.now.getD pl [] := ⟨_, rfl⟩
  rw [← hsec] at hrd
  have hsl : sec.length = 128 := by rw [hsec]; exact sector_len HP5.out.inv.rest.ok (by have := HKK.out.1; omega)
  obtain ⟨x, hx⟩ : ∃ x, x = sec.getD j 0 := ⟨_, rfl⟩
  have HRD := Lib.hid hrd
  have HSEC := Lib.hid (And.intro hsec (And.intro hsl hx))
  clear hmay hrd hsec hsl hx
  refine HRD.out.mono ?_
  rintro e w7 ⟨g, rfl, hg, hB, hb7⟩
  have hxc : w7.cell? ⟨g, j, none⟩ = some (.int .u8 (x.toNat : Int)) := by
    rw [hB.cell, HSEC.out.2.2]
    have hjl : j < sec.length := by rw [HSEC.out.2.1]; exact hj128
    simp [bv, List.getD_eq_getElem?_getD, List.getElem?_eq_getElem hjl]
  have hfz := hB.frozen j
  by_cases h0 : by_ = 0
  · have hby : ((by_.toNat : Int) == 0) = true := by rw [h0]; rfl
    have hbl := HP5.out.run.below.trans (hb7.mono HP5.out.run.below.size)
    have HBL := Lib.hid hbl
    clear hbl hg hB hb7 hxc hfz h0
    go_wp2_with fail
    go_ret
    exact ⟨rfl, HBL.out⟩
  · have hby : ((by_.toNat : Int) == 0) = false := by
      rw [beq_eq_false_iff_ne]
      intro h1
      exact h0 (UInt8.toNat_inj.1 (by simpa using h1))
    have hxor := xor_u8 x by_
    have hne := xor_ne (x := x) h0
    obtain ⟨y, hy⟩ : ∃ y, y = x ^^^ by_ := ⟨_, rfl⟩
    rw [← hy] at hxor hne
    obtain ⟨w8, hw8⟩ : ∃ w8, w8 = w7.setCell ⟨g, j, none⟩ (.int .u8 (y.toNat : Int)) := ⟨_, rfl⟩
    have hb8 : Below w5.heap.size w5 w8 := by rw [hw8]; exact hb7.setCell hg _
    have hB8 : Blk w8 g 62 ((sec.set j y).map bv).toArray := by
      rw [hw8]
      have := hB.set_ j (.int .u8 (y.toNat : Int))
      rw [show ((sec.set j y).map bv).toArray = (sec.map bv).toArray.setIfInBounds j (.int .u8 (y.toNat : Int)) by simp [bv]]
      exact this
    have hl2 : (sec.set j y).length = 128 := by rw [List.length_set]; exact HSEC.out.2.1
    have hS8 := hB8.slc (sz := 1) (n := 128) (c := 128) (by simp [HSEC.out.2.1]) (Nat.le_refl _) (by decide)
    rw [List.take_of_length_le (by simp [HSEC.out.2.1])] at hS8
    have HP8 := Lib.hid (HP5.out.free hb8)
    have hgF : ∀ a : Addr, some (⟨g, 0, none⟩ : Addr) = some a → ¬ F3 a.block := fun a ha hf => by
      injection ha with ha
      subst ha
      have := HP5.out.run.wal.disk.1 _ hf
      simp only at this
      omega
    have hwr := write_any HP8.out.run.wal.disk (pl : Int) hS8 hgF HP8.out.inv.loose
    have hdg := (HP8.out.inv.rest.dg (P := fun _ => True) trivial).write (i := pl) (by have := HKK.out.1; omega) hl2 (fun _ _ => trivial)
    obtain ⟨D9, hD9⟩ : ∃ D9, D9 = D3.write (K + 24) (pl : Int) (sec.set j y) := ⟨_, rfl⟩
    rw [← hD9] at hwr hdg
    have h9 : D9.up = true ∧ D9.now = D3.now.set pl (sec.set j y) := by
      rcases hdg with ⟨_, h1, h2, _⟩ | ⟨_, h1, _⟩
      · exact ⟨h1.up, h2⟩
      · rw [HP8.out.armed] at h1; cases h1
    have HWR := Lib.hid hwr
    have H9 := Lib.hid h9
    have HNE := Lib.hid hne
    have HW8 := Lib.hid hw8
    clear hg hB hb7 h0 hy hw8 hb8 hB8 hl2 hS8 hgF hwr hdg hD9 h9 hne
    go_wp2_with fail
    rw [← HW8.out]
    refine HWR.out.mono ?_
    rintro e w9 ⟨rfl, F9, hs9, hd9⟩
    have HR9 := Lib.hid (HP8.out.run.dstep hs9 hd9)
    clear hs9 hd9
    go_wp2_with fail
    have hn4 := HR9.out.wal.log.ok.n4
    have hn255 := HR9.out.wal.log.ok.n255
    have hfits := HR9.out.wal.log.ok.fits
    rw [HP8.out.size] at hn4 hn255 hfits
    have hop := open_any HR9.out.wal.disk 0 K (by unfold mayB; rw [decide_eq_true_eq]; omega)
    have hcd := HP8.out.inv.coded
    by_cases hpu : pl ≤ L4.used
    · have hse := open_seen hcd HP8.out.inv.ok HP8.out.base HP8.out.inv.rest.ok.now hpu hj128 (v := y) (by rw [← HSEC.out.1, ← HSEC.out.2.2]; exact HNE.out) H9.out.1 (by rw [← HSEC.out.1]; exact H9.out.2)
      rw [HP8.out.base, HP8.out.size] at hse
      rw [hse] at hop
      have HOP := Lib.hid hop
      have hpu2 : (pl : Int) ≤ (L4.used : Int) := by omega
      clear hop hse hcd hpu hn4 hn255 hfits
      refine HOP.out.mono ?_
      rintro e w10 ⟨hb10, hno, _⟩
      obtain rfl := hno rfl
      have HR10 := Lib.hid (HR9.out.free hb10)
      clear hb10 hno
      go_wp2_with fail
      refine (used_any HR10.out.wal.log).mono ?_
      rintro e w11 ⟨rfl, rfl⟩
      go_wp2_with fail
      go_ret
      exact ⟨rfl, HR10.out.below⟩
    · have hc9 : Coded (K + 24) L4 D9.now := by rw [H9.out.2]; exact hcd.set (.inr (by rw [HP8.out.base]; omega)) _
      have hoc := open_coded hc9 HP8.out.inv.ok H9.out.1
      rw [HP8.out.base, HP8.out.size] at hoc
      rw [hoc] at hop
      have HOP := Lib.hid hop
      have hpu2 : ¬ (pl : Int) ≤ (L4.used : Int) := by omega
      have hval : homesB K ((({ base := 0, n := K, epoch := L4.epoch, used := L4.used, sum := L4.sum, over := L4.over, staged := [], dead := false } : LogM)).val D9) = was := by
        rw [HWAS.out]
        refine homesB_congr fun i hi => ?_
        rw [val_told, val_told, HS4.out]
        show (mget L4.over (K + i)).getD (D9.now.getD (K + i) []) = (mget L4.over (K + i)).getD (D3.now.getD (K + i) [])
        rw [H9.out.2, getD_set_ne (by have := HKK.out.1; omega)]
      have HVAL := Lib.hid hval
      clear hop hcd hpu hn4 hn255 hfits hc9 hoc hval
      refine HOP.out.mono ?_
      rintro e w10 ⟨hb10, _, hl10⟩
      obtain ⟨p', go', gs', rfl, hlog, hft⟩ := hl10 _ rfl
      have HR10 := Lib.hid (HR9.out.free hb10)
      have HWAL := Lib.hid (show Wal w10 F9 p' go' gs' pd (K + 24) _ D9 from ⟨hlog, HR10.out.wal.disk, fun k hk hf => by
        have h1 := hft k hk
        have h2 := HR9.out.wal.disk.1 k hf
        omega⟩)
      clear hb10 hl10 hlog hft
      go_wp2_with fail
      refine (used_any HR10.out.wal.log).mono ?_
      rintro e w11 ⟨rfl, rfl⟩
      go_wp2_with fail
      have hho := homes_any HWAL.out rfl H9.out.1 rfl rfl
      rw [HVAL.out] at hho
      have HHO := Lib.hid hho
      clear hho
      refine HHO.out.mono ?_
      rintro e w12 ⟨rfl, hb12⟩
      have HBL := Lib.hid (HR10.out.free hb12).below
      clear hb12
      go_wp2_with fail
      go_ret
      exact ⟨rfl, HBL.out⟩
end
set_option maxRecDepth 100000 in
theorem WalDamage_walk {H : Type} {enc : TypeId × Value → H} (W : World) (base : Nat) (v0 v1 v2 v3 : Value) (d0 d1 d2 d3 : DataW H) (p0 p1 p2 p3 : List MemPlace)
    (o0 : Value.okWide Try.prog W .any base 3 v0) (o1 : Value.okWide Try.prog W .any base 22 v1) (o2 : Value.okWide Try.prog W .any base 3 v2) (o3 : Value.okWide Try.prog W .any base 5 v3)
    (k0 : DataW.Trod enc Try.prog W 0 (fun _ => true) true 3 v0 d0 p0) (k1 : DataW.Trod enc Try.prog W 0 (fun _ => true) true 22 v1 d1 p1) (k2 : DataW.Trod enc Try.prog W 0 (fun _ => true) true 3 v2 d2 p2) (k3 : DataW.Trod enc Try.prog W 0 (fun _ => true) true 5 v3 d3 p3)
    (hsz : (DataW.weightsEach Try.prog [3, 22, 3, 5] [d0, d1, d2, d3]).all (· ≤ reachBytes) = true) :
    Calls Try.prog 3 #[v0, v1, v2, v3] W fun e w' => e = .returned (.bool true) ∧ Below W.heap.size W w' := by
  obtain ⟨A1, n1, c1, l1, rfl, hl1, hS1, hO1⟩ := open_wops o1 k1
  obtain ⟨x, rfl, rfl, rfl, wx⟩ := open_int Try.underlying3 o0 k0
  obtain ⟨y, rfl, rfl, rfl, wy⟩ := open_int Try.underlying3 o2 k2
  obtain ⟨z, rfl, rfl, rfl, wz⟩ := open_int Try.underlying5 o3 k3
  obtain ⟨c, rfl⟩ := u8_of_wf wz
  exact damage_law W x (int_wf wx) hl1 hS1 hO1 y (int_wf wy) c
end Go.Proofs.Ytjdlaocmifobnaa
