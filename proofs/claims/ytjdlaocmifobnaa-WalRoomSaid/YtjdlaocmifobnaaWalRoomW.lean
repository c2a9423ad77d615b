/- The walk of the law WalRoom. -/
import Derived.Test.YtjdlaocmifobnaaWalKeepsW
namespace Go.Proofs.Ytjdlaocmifobnaa
open Go.RowKit Go.ChangeShapes Go.WideShapes
set_option linter.unusedVariables false
set_option linter.unusedSimpArgs false

/-- k homes are staged, one behind the other, and nothing was committed. -/
structure Filled (K : Nat) (c : UInt8) (k : Nat) (L : LogM) : Prop where
  len : L.staged.length = k
  at_ : ∀ i, i < k → mget L.staged (K + i) = some (fulls c)
  none_ : ∀ i, k ≤ i → mget L.staged (K + i) = none
  used : L.used = 0
  over : L.over = []
section
variable {N K k : Nat} {c : UInt8} {L : LogM} {D : DiskM}
theorem stageE_home (h : LInv N L D) {i : Nat} (hh : homeB N L (i : Int) = true) : L.stageE N (i : Int) 128 = if mget L.staged i = none ∧ L.n - 1 < costN (L.staged.length + 1) then 45 else 0 := by
  unfold LogM.stageE
  rw [if_neg (by simp [h.alive]), if_neg (by simp [hh]), if_neg (by simp)]
  rfl
theorem Filled.step (h : Filled K c k L) (hi : LInv N L D) (hn : L.n = K) (hK : K ≤ 15) (hk : k + 2 < K) (hh : homeB N L ((K + k : Nat) : Int) = true) :
    L.stageE N ((K + k : Nat) : Int) 128 = 0 ∧ Filled K c (k + 1) (L.stage N ((K + k : Nat) : Int) 128 (fulls c)) := by
  have he : L.stageE N ((K + k : Nat) : Int) 128 = 0 := by
    rw [stageE_home hi hh, if_neg]
    rintro ⟨_, h2⟩
    rw [h.len, hn] at h2
    unfold costN at h2
    omega
  refine ⟨he, ?_⟩
  unfold LogM.stage
  rw [he, if_pos rfl]
  have hm : ∀ j, mget (mput L.staged (K + k) (fulls c)) j = if j = K + k then some (fulls c) else mget L.staged j := fun j => mget_put hi.staged _ _ _
  refine ⟨?_, fun i h1 => ?_, fun i h1 => ?_, h.used, h.over⟩
  · show (mput L.staged (K + k) (fulls c)).length = k + 1
    rw [mget_put_length hi.staged, h.none_ k (Nat.le_refl _), if_pos rfl, h.len]
  · show mget (mput L.staged (K + k) (fulls c)) (K + i) = _
    rw [hm]
    by_cases h2 : K + i = K + k
    · rw [if_pos h2]
    · rw [if_neg h2]; exact h.at_ i (by omega)
  · show mget (mput L.staged (K + k) (fulls c)) (K + i) = _
    rw [hm, if_neg (by omega)]
    exact h.none_ i (by omega)
theorem Filled.full (h : Filled K c k L) (hi : LInv N L D) (hn : L.n = K) (hK : K ≤ 15) (hk : k + 2 = K) (hh : homeB N L ((K + k : Nat) : Int) = true) : L.stageE N ((K + k : Nat) : Int) 128 = 45 ∧ L.stage N ((K + k : Nat) : Int) 128 (fulls c) = L := by
  have he : L.stageE N ((K + k : Nat) : Int) 128 = 45 := by
    rw [stageE_home hi hh, if_pos]
    refine ⟨h.none_ k (Nat.le_refl _), ?_⟩
    rw [h.len, hn]
    unfold costN
    omega
  refine ⟨he, ?_⟩
  unfold LogM.stage
  rw [he, if_neg (by decide)]
theorem Filled.same (h : Filled K c k L) (hi : LInv N L D) (hk : 0 < k) (x : UInt8) (hh : homeB N L ((K + 0 : Nat) : Int) = true) : L.stageE N ((K + 0 : Nat) : Int) 128 = 0 ∧ (L.stage N ((K + 0 : Nat) : Int) 128 (fulls x)) = { L with staged := mput L.staged K (fulls x) } ∧ (mput L.staged K (fulls x)).length = k := by
  have hs := h.at_ 0 hk
  have he : L.stageE N ((K + 0 : Nat) : Int) 128 = 0 := by
    rw [stageE_home hi hh, if_neg]
    rintro ⟨h1, _⟩
    rw [hs] at h1
    cases h1
  refine ⟨he, ?_, ?_⟩
  · unfold LogM.stage
    rw [he, if_pos rfl]
    rfl
  · rw [Nat.add_zero] at hs
    rw [mget_put_length hi.staged, hs, if_neg (by simp), h.len]
theorem room_used (h : LInv N L D) (ha : D.armed = false) (hu : L.used = 0) (h0 : L.staged.length ≠ 0) : (commitR N L D).2.1.used = costN L.staged.length := by
  unfold commitR
  rw [if_neg (by simp [h.alive]), if_neg h0, if_neg (by rw [hu]; have := h.cost; omega)]
  rcases commitM_plain h (by rw [hu]; have := h.cost; omega) with ⟨_, _, _, _, _, h6, _⟩ | ⟨_, h2, _⟩
  · rw [h6, hu]; omega
  · rw [ha] at h2; cases h2
theorem fresh_get {N k : Nat} (h0 : 0 < k) (hk : k < N) (x : List UInt8) : ((DiskM.fresh N).now.set 0 x).getD k [] = fulls 0 := by
  rw [getD_set_ne (by omega)]
  show (List.replicate N (List.replicate 128 0)).getD k [] = _
  rw [List.getD_eq_getElem?_getD, List.getElem?_replicate, if_pos hk]
  rfl
theorem Played.stageZ {w wi wj : World} {p go gs pd n : Nat} {L : LogM} {F : Nat → Prop} {D : DiskM} (h : Played w wi F p go gs pd n L D) {c : UInt8} {g : Nat} (hf : NewFull wi wj c g) {i : Nat} (hi : i < 24) {z : Int} (hz : z = ((n + i : Nat) : Int)) :
    Calls Try.prog 19 #[.pointer (some ⟨p, 0, none⟩), .int .i64 z, .slice (some ⟨g, 0, none⟩) 128 128] wj fun e w' => e = .returned (.int .i64 (L.stageE (n + 24) ((n + i : Nat) : Int) 128)) ∧ Played w w' F p go gs pd n (L.stage (n + 24) ((n + i : Nat) : Int) 128 (fulls c)) D := by
  have := h.stage hf hi
  rw [hz, show ((n + i : Nat) : Int) = (n : Int) + (i : Int) by omega]
  exact this.mono fun e w' ⟨E, _, he, hE, hP⟩ => by
    subst hE
    rw [show ((n : Int) + (i : Int)) = ((n + i : Nat) : Int) by omega]
    exact ⟨he, hP⟩
end
section
set_option maxRecDepth 100000 in
set_option maxHeartbeats 4000000 in
theorem room_law (w : World) (n : Int) (hn : -9223372036854775808 ≤ n ∧ n ≤ 9223372036854775807) (c : UInt8) :
    Calls Try.prog 4 #[.int .i64 n, .int .u8 (c.toNat : Int)] w fun e w' => e = .returned (.bool true) ∧ Below w.heap.size w w' := by
  have hk := madeK_le n
  have HMADE := Lib.hid (fun (wi : World) (hb : Below w.heap.size w wi) => made_played n hn hb)
  obtain ⟨_, _, _, hnow⟩ := made_facts hk.1 (by omega : madeK n ≤ 255)
  have HNOW := Lib.hid hnow
  clear hnow
  generalize madeK n = K at *
  obtain ⟨M, hM⟩ : ∃ M, K = M + 2 := ⟨K - 2, by omega⟩
  have hlenZ : ((K - 1 : Nat) : Int) = (M : Int) + 1 := by omega
  have HLZ := Lib.hid hlenZ
  have HM := Lib.hid hM
  have hM13 : M ≤ 13 := by omega
  have hM2 : 2 ≤ M := by omega
  have hKM : (K : Int) = (M : Int) + 2 := by omega
  have HKM := Lib.hid hKM
  have hK15 := hk.2
  have hw1 : IntKind.i64.wrap ((M : Int) + 1 - 1) = (M : Int) := by rw [IntWalk.i64_in _ (by omega)]; omega
  have hw2 : IntKind.i64.wrap ((K : Int) + (M : Int)) = (K : Int) + (M : Int) := IntWalk.i64_in _ (by omega)
  obtain ⟨c1, hc1⟩ : ∃ c1 : UInt8, c1 = c + 1 := ⟨_, rfl⟩
  have hcw : IntKind.u8.wrap ((c.toNat : Int) + 1) = (c1.toNat : Int) := by
    rw [hc1]
    have := c.toNat_lt
    simp [IntKind.wrap, IntKind.bits, IntKind.signed, UInt8.toNat_add]
  clear hk hlenZ hM hKM hc1
  go_enter Try.func4, Try.ntmps4
  go_wp2_with fail
  refine (wshown_any w).mono ?_
  rintro e w1 ⟨rfl, hb1⟩
  go_wp2_with fail
  refine (HMADE.out w1 hb1).mono ?_
  rintro e w2 ⟨p, go, gs, pd, F2, rfl, P2⟩
  obtain ⟨D0, hD0⟩ : ∃ D0, D0 = madeD K := ⟨_, rfl⟩
  have HD0 := Lib.hid hD0
  rw [← hD0] at P2
  have HP2 := Lib.hid P2
  clear hb1 P2 hD0
  go_wp2_with fail
  refine (llen_any HP2.out.run.wal.log).mono ?_
  rintro e w3 ⟨rfl, rfl⟩
  rw [show (((madeL K).n - 1 : Nat) : Int) = (M : Int) + 1 from HLZ.out]
  go_wp2_with fail
  go_loopw [9] (fun i wr => ∃ (k : Nat) (L' : LogM), k ≤ M ∧ i = .int .i64 (k : Int) ∧ Played w wr F2 p go gs pd K L' D0 ∧ Filled K c k L') (fun i _ => M - (intOf i).toNat)
  case atStart => exact ⟨0, madeL K, by omega, rfl, HP2.out, ⟨rfl, fun i hi => absurd hi (Nat.not_lt_zero _), fun i _ => rfl, rfl, rfl⟩⟩
  case round =>
    obtain ⟨k, L', hk, rfl, hP, hF⟩ := hrel
    have HP := Lib.hid hP
    have HF := Lib.hid hF
    clear hP hF
    by_cases hlt : k < M
    · have hw3 : IntKind.i64.wrap ((K : Int) + (k : Int)) = (K : Int) + (k : Int) := IntWalk.i64_in _ (by omega)
      have hst := HF.out.step HP.out.inv HP.out.size hK15 (by have := HM.out; omega) (HP.out.behind (by omega))
      have HST := Lib.hid hst
      clear hst
      go_wp2_with fail
      refine (full_lit _ c rfl _).mono ?_
      rintro e w4 ⟨g, rfl, hnf⟩
      have hca := HP.out.stageZ hnf (i := k) (by omega) (z := (K : Int) + (k : Int)) (by omega)
      rw [HST.out.1] at hca
      have HCA := Lib.hid hca
      clear hnf hca
      go_wp2_with fail
      refine HCA.out.mono ?_
      rintro e w5 ⟨rfl, P5⟩
      have HP5 := Lib.hid P5
      clear P5
      go_wp2_with fail
      exact ⟨⟨k + 1, _, by omega, by go_num, HP5.out, HST.out.2⟩, by simp [intOf]; omega⟩
    · obtain rfl : k = M := by omega
      have hfu := HF.out.full HP.out.inv HP.out.size hK15 HM.out.symm (HP.out.behind (by omega))
      have HFU := Lib.hid hfu
      clear hfu
      go_wp2_with fail
      refine (full_lit _ c rfl _).mono ?_
      rintro e w4 ⟨g, rfl, hnf⟩
      have hca := HP.out.stageZ hnf (i := k) (by omega) (z := (K : Int) + (k : Int)) (by omega)
      rw [HFU.out.1, HFU.out.2] at hca
      have HCA := Lib.hid hca
      clear hnf hca
      go_wp2_with fail
      refine HCA.out.mono ?_
      rintro e w5 ⟨rfl, P5⟩
      have HP5 := Lib.hid P5
      clear P5
      go_wp2_with fail
      refine (full_lit _ c1 rfl _).mono ?_
      rintro e w6 ⟨g2, rfl, hnf⟩
      have hsa := HF.out.same HP5.out.inv (by omega) c1 (HP5.out.behind (i := 0) (by decide))
      have hca := HP5.out.stageZ hnf (i := 0) (by decide) (z := (K : Int)) (by omega)
      rw [hsa.1, hsa.2.1] at hca
      obtain ⟨L6, hL6⟩ : ∃ L6 : LogM, L6 = { L' with staged := mput L'.staged K (fulls c1) } := ⟨_, rfl⟩
      rw [← hL6] at hca
      have HCA := Lib.hid hca
      have HSA := Lib.hid hsa.2.2
      have HL6 := Lib.hid hL6
      clear hnf hca hsa hL6
      go_wp2_with fail
      refine HCA.out.mono ?_
      rintro e w7 ⟨rfl, P7⟩
      have HP7 := Lib.hid P7
      clear P7
      have hci := HP7.out.inv.commitI HP7.out.armed
      have hus := room_used HP7.out.inv HP7.out.armed (by rw [HL6.out]; exact HF.out.used) (by rw [HL6.out]; show (mput L'.staged K (fulls c1)).length ≠ 0; rw [HSA.out]; omega)
      have hus2 : (commitR (K + 24) L6 D0).2.1.used = K - 1 := by
        rw [hus, HL6.out]
        show costN (mput L'.staged K (fulls c1)).length = _
        rw [HSA.out]
        have := HM.out
        unfold costN
        omega
      have hm : ∀ j, mget L6.staged j = if j = K then some (fulls c1) else mget L'.staged j := fun j => by rw [HL6.out]; exact mget_put HP5.out.inv.staged _ _ _
      have hv : ∀ i, i < 24 → (commitR (K + 24) L6 D0).2.1.val (commitR (K + 24) L6 D0).2.2 (K + i) = L6.val D0 (K + i) := fun i hi => by
        rw [val_told, hci.2.2.2.2.1]
        exact hci.2.2.2.2.2.1 (K + i) (HP7.out.behind hi)
      have hv0 : (commitR (K + 24) L6 D0).2.1.val (commitR (K + 24) L6 D0).2.2 K = fulls c1 := by
        have h0 := hv 0 (by decide)
        simp only [Nat.add_zero] at h0
        rw [h0, val_told, hm, if_pos rfl]
        rfl
      have hvM : (commitR (K + 24) L6 D0).2.1.val (commitR (K + 24) L6 D0).2.2 (K + k) = fulls 0 := by
        rw [hv k (by omega), val_told, hm, if_neg (by omega), HF.out.none_ k (Nat.le_refl _)]
        show told L6 D0.now (K + k) = _
        unfold told
        rw [HL6.out]
        show (mget L'.over (K + k)).getD _ = _
        rw [HF.out.over]
        show D0.now.getD (K + k) [] = _
        rw [HD0.out, HNOW.out]
        exact fresh_get (by omega) (by omega) _
      have hcc := HP7.out.commit
      generalize commitR (K + 24) L6 D0 = R at *
      obtain ⟨E8, L8, D8⟩ := R
      simp only at hus2 hv0 hvM hcc
      have HV0 := Lib.hid hv0
      have HVM := Lib.hid hvM
      have HUS := Lib.hid hus2
      have HCC := Lib.hid hcc
      clear hci hus hus2 hm hv hv0 hvM hcc
      go_wp2_with fail
      refine HCC.out.mono ?_
      rintro e w8 ⟨rfl, F8, P8⟩
      have HP8 := Lib.hid P8
      clear P8
      go_wp2_with fail
      refine (lread_ok HP8.out.run.wal.log HP8.out.inv.alive HP8.out.run.wal.disk K (HP8.out.behind (i := 0) (by decide)) HP8.out.inv.rest.up).mono ?_
      rintro e w9 ⟨A9, c9, rfl, hb9, hS9, _⟩
      rw [HV0.out] at hS9
      have HP9 := Lib.hid (HP8.out.free hb9)
      have HS9 := Lib.hid hS9
      clear hb9 hS9
      go_wp2_with fail
      have hrd := lread_ok HP9.out.run.wal.log HP9.out.inv.alive HP9.out.run.wal.disk (K + k) (HP9.out.behind (by omega)) HP9.out.inv.rest.up
      rw [show ((K + k : Nat) : Int) = (K : Int) + (k : Int) by omega] at hrd
      have HRD := Lib.hid hrd
      clear hrd
      refine HRD.out.mono ?_
      rintro e w10 ⟨A10, c10, rfl, hb10, hS10, _⟩
      rw [HVM.out] at hS10
      have HP10 := Lib.hid (HP9.out.free hb10)
      have hS9 := HS9.out.below hb10
      have hS : ∀ W, Below w10.heap.size w10 W → (convert 33 9 (.slice A9 128 c9)).run Try.prog W = .ok (.string ⟨(fulls c1).toArray⟩) W ∧ (convert 33 9 (.slice A10 128 c10)).run Try.prog W = .ok (.string ⟨(fulls 0).toArray⟩) W := fun W hW =>
        ⟨convert_bytes Try.underlying33 Try.underlying5 ((hS9.more hb10.size).below hW) 9 Try.underlying9, convert_bytes Try.underlying33 Try.underlying5 (hS10.below hW) 9 Try.underlying9⟩
      have HSS := Lib.hid hS
      have hw11 : Below w10.heap.size w10 w10.drew := (Below.refl _ _).drew
      have hln := llen_any HP10.out.drew.run.wal.log
      rw [HP10.out.size] at hln
      have hug := used_any HP10.out.drew.run.wal.log
      rw [HUS.out] at hug
      have HLN := Lib.hid hln
      have HUG := Lib.hid hug
      clear hS hb10 hS9 hS10 hln hug
      have tok1 : True := trivial
      go_wp2_with fail
      go_region_held (fun W => (convert 33 9 (.slice A9 128 c9)).run Try.prog W = .ok (.string ⟨(fulls c1).toArray⟩) W ∧ (convert 33 9 (.slice A10 128 c10)).run Try.prog W = .ok (.string ⟨(fulls 0).toArray⟩) W) (exact HSS.out _ (by assumption)) (first | (go_at_call 20; have _t := tok1; refine (full_lit _ c1 rfl _).mono ?_; rintro e w18 ⟨g18, rfl, hn18⟩; have hb18 : Below w10.heap.size w10 w18 := hw11.trans hn18.below; have hc18 := full_string hn18.blk; clear tok1) | (go_at_call 20; refine (full_lit 0 0 rfl _).mono ?_; rintro e w19 ⟨g19, rfl, hn19⟩; have hb19 : Below w10.heap.size w10 w19 := hb18.trans (hn19.below.mono hb18.size); have hc19 := full_string hn19.blk) | (go_at_call 18; refine HLN.out.mono ?_; rintro e w20 ⟨rfl, rfl⟩) | (go_at_call 17; refine HUG.out.mono ?_; rintro e w20 ⟨rfl, rfl⟩))
      all_goals
        go_wp2_with fail
        go_ret
        exact ⟨rfl, (HP10.out.free hb19).run.below⟩
end
set_option maxRecDepth 100000 in
theorem WalRoom_walk {H : Type} {enc : TypeId × Value → H} (W : World) (base : Nat) (v0 v1 : Value) (d0 d1 : DataW H) (p0 p1 : List MemPlace)
    (o0 : Value.okWide Try.prog W .any base 3 v0) (o1 : Value.okWide Try.prog W .any base 5 v1)
    (k0 : DataW.Trod enc Try.prog W 0 (fun _ => true) true 3 v0 d0 p0) (k1 : DataW.Trod enc Try.prog W 0 (fun _ => true) true 5 v1 d1 p1)
    (hsz : (DataW.weightsEach Try.prog [3, 5] [d0, d1]).all (· ≤ reachBytes) = true) :
    Calls Try.prog 4 #[v0, v1] W fun e w' => e = .returned (.bool true) ∧ Below W.heap.size W w' := by
  obtain ⟨x, rfl, rfl, rfl, wx⟩ := open_int Try.underlying3 o0 k0
  obtain ⟨y, rfl, rfl, rfl, wy⟩ := open_int Try.underlying5 o1 k1
  obtain ⟨c, rfl⟩ := u8_of_wf wy
  exact room_law W x (int_wf wx) c
end Go.Proofs.Ytjdlaocmifobnaa
