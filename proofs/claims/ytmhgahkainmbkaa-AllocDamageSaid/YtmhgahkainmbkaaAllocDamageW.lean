/- The walk of the law AllocDamage. -/
import Derived.Test.YtmhgahkainmbkaaAllocE
namespace Go.Proofs.Ytmhgahkainmbkaa
open Go.RowKit Go.ChangeShapes Go.WideShapes
set_option linter.unusedVariables false
set_option linter.unusedSimpArgs false
theorem headB_inj {a b : Nat} (ha : a ≤ 65535) (hb : b ≤ 65535) (h : headB a = headB b) : a = b := by
  have e : ∀ k, headB k = rootB ++ (le 2 k ++ List.replicate (128 - (rootB ++ le 2 k).length) 0) := fun k => by unfold headB pad; rw [List.append_assoc]
  rw [e, e] at h
  have h1 := congrArg (fun l => (l.drop 8).take 2) h
  simp only [List.drop_left' (show rootB.length = 8 from rfl), List.take_left' (le_length 2 _)] at h1
  exact le_inj (by have : (256 : Nat) ^ 2 = 65536 := by decide
                   omega) (by have : (256 : Nat) ^ 2 = 65536 := by decide
                              omega) h1
theorem xor_ne {x y : UInt8} (h : y ≠ 0) : x ^^^ y ≠ x := fun e => h (by
  have h2 : x ^^^ (x ^^^ y) = x ^^^ x := by rw [e]
  rw [← UInt8.xor_assoc, UInt8.xor_self, UInt8.zero_xor] at h2
  exact h2)
variable {w wi wj : World} {p go gs pd ps n : Nat} {L L' : LogM} {F Fj : Nat → Prop} {D : DiskM}
set_option maxRecDepth 100000 in
set_option maxHeartbeats 4000000 in
theorem adamage_law (w : World) (n : Int) (hn : -9223372036854775808 ≤ n ∧ n ≤ 9223372036854775807) (at_ : Int) (hat : -9223372036854775808 ≤ at_ ∧ at_ ≤ 9223372036854775807) (by_ : UInt8) (other : Int) (ho : -9223372036854775808 ≤ other ∧ other ≤ 9223372036854775807) :
    Calls Try.prog 4 #[.int .i64 n, .int .i64 at_, .int .u8 (by_.toNat : Int), .int .i64 other] w fun e w' => e = .returned (.bool true) ∧ Below w.heap.size w w' := by
  obtain ⟨hm1, hm2⟩ := sizeN_le n
  obtain ⟨ho1, ho2⟩ := sizeN_le other
  have HSZ := Lib.hid (fun W : World => size_any n hn W)
  have HSO := Lib.hid (fun W : World => size_any other ho W)
  obtain ⟨m, hm⟩ : ∃ m, m = sizeN n := ⟨_, rfl⟩
  obtain ⟨m2, hm2'⟩ : ∃ m2, m2 = sizeN other := ⟨_, rfl⟩
  rw [← hm] at hm1 hm2 HSZ
  rw [← hm2'] at ho1 ho2 HSO
  obtain ⟨hc0, hi2, ha2, hb2, hn2, hst2, hv0, _, _⟩ := made_all hm1 (by omega : m ≤ 1024)
  have HFACT := Lib.hid (And.intro hi2 (And.intro hst2 hv0))
  obtain ⟨q, hq⟩ : ∃ q : Nat, (at_ < 0 ∧ -(at_ + 1) = (q : Int)) ∨ (0 ≤ at_ ∧ at_ = (q : Int)) := by
    by_cases hneg : at_ < 0
    · exact ⟨(-(at_ + 1)).toNat, .inl ⟨hneg, by omega⟩⟩
    · exact ⟨at_.toNat, .inr ⟨by omega, by omega⟩⟩
  have hqm : q ≤ 9223372036854775807 := by omega
  obtain ⟨hat1, hat2⟩ := hat
  clear hn ho hm hm2' hc0 hi2 ha2 hb2 hn2 hst2 hv0
  go_enter Try.func4, Try.ntmps4
  go_wp2_with fail
  refine (ashown_any w).mono ?_
  rintro e w1 ⟨rfl, hb1⟩
  have HB1 := Lib.hid hb1
  clear hb1
  go_wp2_with fail
  refine (HSZ.out _).mono ?_
  rintro e w2 ⟨rfl, rfl⟩
  go_wp2_with fail
  refine (amade_any hm1 (by omega) HB1.out).mono ?_
  rintro e w3 ⟨p, go, gs, pd, ps, F, rfl, hA⟩
  have HA := Lib.hid hA
  clear hA
  by_cases h0 : by_ = 0
  · have hby : ((by_.toNat : Int) == 0) = true := by rw [h0]; rfl
    have HBL := Lib.hid HA.out.log.run.below
    clear h0 hq
    go_wp2_with fail
    go_ret
    exact ⟨rfl, HBL.out⟩
  · have hby : ((by_.toNat : Int) == 0) = false := by
      rw [beq_eq_false_iff_ne]
      intro h1
      exact h0 (UInt8.toNat_inj.1 (by simpa using h1))
    have HNZ := Lib.hid h0
    have HQ := Lib.hid hq
    clear h0 hq
    go_wp2_with fail
    have hrd := HA.out.log.readB (k := 0) (.inl rfl) (by omega)
    rw [HFACT.out.2.2] at hrd
    have HRD := Lib.hid hrd
    clear hrd
    refine HRD.out.mono ?_
    rintro e w4 ⟨g, cap, rfl, hby4⟩
    obtain ⟨j, hj⟩ : ∃ j, j = q % 128 := ⟨_, rfl⟩
    have hj128 : j < 128 := by omega
    have hjq : (q : Int) % 128 = (j : Int) := by omega
    have hjt : (q : Int).tmod 128 = (j : Int) := by rw [Int.tmod_eq_emod_of_nonneg (by omega)]; omega
    obtain ⟨x, hx⟩ : ∃ x, x = (headB m).getD j 0 := ⟨_, rfl⟩
    have hxc := hby4.cell hj128
    rw [← hx] at hxc
    have hfz := hby4.frozen j
    have hxor := xor_u8 x by_
    obtain ⟨y, hy⟩ : ∃ y, y = x ^^^ by_ := ⟨_, rfl⟩
    rw [← hy] at hxor
    have HBY := Lib.hid hby4
    have HXY := Lib.hid (And.intro hx hy)
    clear hby4 hj hx hy
    have hh0 : homeB m (mL m) ((0 : Nat) : Int) = true := HA.out.log.homeAt (.inl rfl) (by omega)
    have hlay := lay_facts hm1 (by omega : m ≤ 1024)
    obtain ⟨b, hb⟩ : ∃ b, b = (headB m).set j y := ⟨_, rfl⟩
    have hbl : b.length = 128 := by rw [hb, List.length_set, headB_length]
    have hbne : b ≠ headB m := fun e => by
      have h1 := congrArg (fun l => l.getD j 0) e
      simp only [hb] at h1
      rw [List.getD_eq_getElem?_getD, List.getElem?_set_self (by rw [headB_length]; exact hj128)] at h1
      rw [← HXY.out.1, Option.getD_some, HXY.out.2] at h1
      exact xor_ne HNZ.out h1
    have hsr := stage_room HFACT.out.1 (i := 0) hh0 (by rw [HFACT.out.2.1, HA.out.log.size]; simp [costN]; omega) b
    obtain ⟨L6, hL6⟩ : ∃ L6, L6 = (mL m).stage m ((0 : Nat) : Int) 128 b := ⟨_, rfl⟩
    have hs6 : L6.staged = mput [] 0 b := by rw [hL6, hsr.2, HFACT.out.2.1]
    have ho6 : L6.over = (mL m).over := by rw [hL6, hsr.2]
    have hv6 : L6.val (mD m) 0 = b := by rw [val_told, hs6]; rfl
    have hv7 : ({ L6 with staged := [] } : LogM).val (mD m) 0 = headB m := by
      rw [← HFACT.out.2.2, val_told, val_told, HFACT.out.2.1]
      show told { L6 with staged := [] } (mD m).now 0 = told (mL m) (mD m).now 0
      unfold told
      rw [show ({ L6 with staged := [] } : LogM).over = (mL m).over from ho6]
    have HV := Lib.hid (And.intro hv6 (And.intro hv7 hbne))
    obtain ⟨w5, hw5⟩ : ∃ w5, w5 = (w4.setCell ⟨g, j, none⟩ (.int .u8 (y.toNat : Int))).drew := ⟨_, rfl⟩
    have hby5 := (HBY.out.set (j := j) hj128 y rfl).free (Below.refl _ (w4.setCell ⟨g, j, none⟩ (.int .u8 (y.toNat : Int)))).drew
    rw [← hw5, ← hb] at hby5
    have hst := (HA.out.free hby5.below).stage (k := 0) (.inl rfl) (by omega) (z := 0) rfl hbl hby5.slc
    rw [← hL6] at hst
    have HST := Lib.hid hst
    have HW5 := Lib.hid hw5
    have hinj : headB m = headB m2 ↔ m2 = m := ⟨fun e => (headB_inj (by omega) (by omega) e).symm, fun e => by rw [e]⟩
    have HINJ := Lib.hid hinj
    clear hh0 hlay hb hbl hbne hsr hL6 hs6 ho6 hv6 hv7 hw5 hby5 hst hinj
    rcases HQ.out with ⟨hneg, hqe⟩ | ⟨hneg, hqe⟩
    · have HQE := Lib.hid hqe
      clear hqe
      go_upto_region 11 with (fail)
      rw [HQE.out]
      clear hneg
      go_region
      all_goals
        rw [← HW5.out]
        clear hxc hfz hxor hjq hjt
        go_wp2_with fail
        refine HST.out.mono ?_
        rintro e w6 ⟨rfl, hA6⟩
        have HA6 := Lib.hid hA6
        clear hA6
        go_wp2_with fail
        refine (aopen_any HA6.out.log hm1 (by omega)).mono ?_
        rintro e w7 ⟨hb7, _, hno⟩
        obtain rfl := hno (by rw [HV.out.1]; exact HV.out.2.2)
        have HA7 := Lib.hid (HA6.out.free hb7)
        clear hb7 hno
        go_wp2_with fail
        refine HA7.out.dropA.mono ?_
        rintro e w8 ⟨rfl, hA8⟩
        have HA8 := Lib.hid hA8
        clear hA8
        go_wp2_with fail
        refine (aopen_any HA8.out.log hm1 (by omega)).mono ?_
        rintro e w9 ⟨hb9, hok, _⟩
        obtain ⟨ps9, rfl, _, _⟩ := hok HV.out.2.1
        have HA9 := Lib.hid (HA8.out.free hb9)
        clear hb9 hok
        go_wp2_with fail
        refine (HSO.out _).mono ?_
        rintro e w10 ⟨rfl, rfl⟩
        go_wp2_with fail
        refine (aopen_any HA9.out.log ho1 (by omega)).mono ?_
        rintro e w11 ⟨hb11, hok, hno⟩
        have HA11 := Lib.hid (HA9.out.free hb11)
        clear hb11
        by_cases hmm : m2 = m
        · obtain ⟨ps11, rfl, _, _⟩ := hok (by rw [HV.out.2.1]; exact HINJ.out.2 hmm)
          have hmi : ((m2 : Int) == (m : Int)) = true := by rw [hmm]; simp
          clear hok hno hmm
          go_wp2_with fail
          refine (HSO.out _).mono ?_
          rintro e w12 ⟨rfl, rfl⟩
          go_wp2_with fail
          go_ret
          exact ⟨rfl, HA11.out.log.run.below⟩
        · obtain rfl := hno (by rw [HV.out.2.1]; exact fun e => hmm (HINJ.out.1 e))
          have hmi : ((m2 : Int) == (m : Int)) = false := by rw [beq_eq_false_iff_ne]; omega
          clear hok hno hmm
          go_wp2_with fail
          refine (HSO.out _).mono ?_
          rintro e w12 ⟨rfl, rfl⟩
          go_wp2_with fail
          go_ret
          exact ⟨rfl, HA11.out.log.run.below⟩
    · subst hqe
      go_wp2_with fail
      clear hneg
      go_region
      all_goals
        rw [← HW5.out]
        clear hxc hfz hxor hjq hjt
        go_wp2_with fail
        refine HST.out.mono ?_
        rintro e w6 ⟨rfl, hA6⟩
        have HA6 := Lib.hid hA6
        clear hA6
        go_wp2_with fail
        refine (aopen_any HA6.out.log hm1 (by omega)).mono ?_
        rintro e w7 ⟨hb7, _, hno⟩
        obtain rfl := hno (by rw [HV.out.1]; exact HV.out.2.2)
        have HA7 := Lib.hid (HA6.out.free hb7)
        clear hb7 hno
        go_wp2_with fail
        refine HA7.out.dropA.mono ?_
        rintro e w8 ⟨rfl, hA8⟩
        have HA8 := Lib.hid hA8
        clear hA8
        go_wp2_with fail
        refine (aopen_any HA8.out.log hm1 (by omega)).mono ?_
        rintro e w9 ⟨hb9, hok, _⟩
        obtain ⟨ps9, rfl, _, _⟩ := hok HV.out.2.1
        have HA9 := Lib.hid (HA8.out.free hb9)
        clear hb9 hok
        go_wp2_with fail
        refine (HSO.out _).mono ?_
        rintro e w10 ⟨rfl, rfl⟩
        go_wp2_with fail
        refine (aopen_any HA9.out.log ho1 (by omega)).mono ?_
        rintro e w11 ⟨hb11, hok, hno⟩
        have HA11 := Lib.hid (HA9.out.free hb11)
        clear hb11
        by_cases hmm : m2 = m
        · obtain ⟨ps11, rfl, _, _⟩ := hok (by rw [HV.out.2.1]; exact HINJ.out.2 hmm)
          have hmi : ((m2 : Int) == (m : Int)) = true := by rw [hmm]; simp
          clear hok hno hmm
          go_wp2_with fail
          refine (HSO.out _).mono ?_
          rintro e w12 ⟨rfl, rfl⟩
          go_wp2_with fail
          go_ret
          exact ⟨rfl, HA11.out.log.run.below⟩
        · obtain rfl := hno (by rw [HV.out.2.1]; exact fun e => hmm (HINJ.out.1 e))
          have hmi : ((m2 : Int) == (m : Int)) = false := by rw [beq_eq_false_iff_ne]; omega
          clear hok hno hmm
          go_wp2_with fail
          refine (HSO.out _).mono ?_
          rintro e w12 ⟨rfl, rfl⟩
          go_wp2_with fail
          go_ret
          exact ⟨rfl, HA11.out.log.run.below⟩
set_option maxRecDepth 100000 in
theorem AllocDamage_walk {H : Type} {enc : TypeId × Value → H} (W : World) (base : Nat) (v0 v1 v2 v3 : Value) (d0 d1 d2 d3 : DataW H) (p0 p1 p2 p3 : List MemPlace)
    (o0 : Value.okWide Try.prog W .any base 3 v0) (o1 : Value.okWide Try.prog W .any base 3 v1) (o2 : Value.okWide Try.prog W .any base 5 v2) (o3 : Value.okWide Try.prog W .any base 3 v3)
    (k0 : DataW.Trod enc Try.prog W 0 (fun _ => true) true 3 v0 d0 p0) (k1 : DataW.Trod enc Try.prog W 0 (fun _ => true) true 3 v1 d1 p1) (k2 : DataW.Trod enc Try.prog W 0 (fun _ => true) true 5 v2 d2 p2) (k3 : DataW.Trod enc Try.prog W 0 (fun _ => true) true 3 v3 d3 p3)
    (hsz : (DataW.weightsEach Try.prog [3, 3, 5, 3] [d0, d1, d2, d3]).all (· ≤ reachBytes) = true) :
    Calls Try.prog 4 #[v0, v1, v2, v3] W fun e w' => e = .returned (.bool true) ∧ Below W.heap.size W w' := by
  obtain ⟨x, rfl, rfl, rfl, wx⟩ := open_int Try.underlying3 o0 k0
  obtain ⟨y, rfl, rfl, rfl, wy⟩ := open_int Try.underlying3 o1 k1
  obtain ⟨z, rfl, rfl, rfl, wz⟩ := open_int Try.underlying5 o2 k2
  obtain ⟨u, rfl, rfl, rfl, wu⟩ := open_int Try.underlying3 o3 k3
  obtain ⟨c, rfl⟩ := u8_of_wf wz
  exact adamage_law W x (int_wf wx) y (int_wf wy) c u (int_wf wu)
end Go.Proofs.Ytmhgahkainmbkaa
