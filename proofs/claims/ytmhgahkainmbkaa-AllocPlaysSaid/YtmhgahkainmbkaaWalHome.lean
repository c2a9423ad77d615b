/- The walk of Home. -/
import Derived.Test.YtmhgahkainmbkaaWalKeys
import Derived.Test.YtmhgahkainmbkaaWalFormat
import Derived.Test.YtmhgahkainmbkaaWalRows
namespace Go.Proofs.Ytmhgahkainmbkaa
open Go.RowKit
set_option linter.unusedVariables false
set_option linter.unusedSimpArgs false

/-- Writes, one behind the other, up to the first that fails. -/
def writesR (N : Nat) : List (Nat × List UInt8) → DiskM → Int × DiskM
  | [], D => (0, D)
  | x :: l, D => if D.writeE N (x.1 : Int) x.2 ≠ 0 then (D.writeE N (x.1 : Int) x.2, D.write N (x.1 : Int) x.2) else writesR N l (D.write N (x.1 : Int) x.2)
def clearR (r : Int × LogM × DiskM) : Int × LogM × DiskM := if r.1 ≠ 0 then r else (0, { r.2.1 with over := [] }, r.2.2)
def homeR (N : Nat) (L : LogM) (D : DiskM) : Int × LogM × DiskM :=
  if L.dead = true then (40, L, D) else if L.used = 0 then (0, L, D)
  else if (writesR N L.over D).1 ≠ 0 then ((writesR N L.over D).1, L.ends (writesR N L.over D).1, (writesR N L.over D).2)
  else clearR (markR N L (writesR N L.over D).2 ((L.epoch + 1) % 18446744073709551616) 0 begin64.toNat)
theorem mark_over {N : Nat} {L : LogM} {D : DiskM} {e u t : Nat} (h : (markR N L D e u t).1 = 0) : (markR N L D e u t).2.1.over = L.over := by
  unfold markR LogM.ends
  split
  · rfl
  · split
    · rfl
    · split <;> rfl
theorem write_loose (D : DiskM) (N : Nat) (i : Int) (l : List UInt8) : (D.write N i l).loose.length ≤ D.loose.length + 1 := by
  unfold DiskM.write
  split
  · omega
  · split
    · omega
    · split
      · unfold DiskM.crash; split
        · omega
        · simp
      · simp
section
attribute [local go_sem ↓] load_wsector_mark store_wsector_mark alloc_wsector_mark look_mark clear_mark
attribute [local go_sem] alloc_wsector
variable {w wi wj : World} {p go gs pd N : Nat} {L L' : LogM} {F Fi Fj : Nat → Prop} {D D' : DiskM}
set_option maxRecDepth 100000 in
set_option maxHeartbeats 4000000 in
theorem home2_any (h : Wal w F p go gs pd N L D) (hroom : D.loose.length ≤ 900000) :
    Calls Try.prog 42 #[.pointer (some ⟨p, 0, none⟩)] w (Done3 w F p go gs pd N (homeR N L D)) := by
  obtain ⟨c0, c1, c2, c3, c4, c5, c6, c7, c8, fz⟩ := log_cells h.log.head
  have HLT := Lib.hid h.both_lt
  have H := Lib.hid h
  have hN := h.log.ok.most
  have hep := h.log.ok.epoch
  have hn4 := h.log.ok.n4
  obtain ⟨R, hR⟩ : ∃ R, R = homeR N L D := ⟨_, rfl⟩
  rw [← hR]
  have HR := Lib.hid hR
  clear hR
  by_cases hd : L.dead = true
  · have hRR : R = (40, L, D) := by rw [HR.out]; unfold homeR; rw [if_pos hd]
    have HRR := Lib.hid hRR
    rw [hd] at c8
    clear hRR hd h
    go_enter Try.func42, Try.ntmps42
    go_wp2_with fail
    go_ret
    rw [HRR.out]
    exact ⟨rfl, F, H.out.start⟩
  · have hd' : L.dead = false := by simpa using hd
    rw [hd'] at c8
    by_cases hu : L.used = 0
    · have hRR : R = (0, L, D) := by rw [HR.out]; unfold homeR; rw [if_neg hd, if_pos hu]
      have HRR := Lib.hid hRR
      rw [hu] at c4
      clear hRR hd hd' hu h
      go_enter Try.func42, Try.ntmps42
      go_wp2_with fail
      go_ret
      rw [HRR.out]
      exact ⟨rfl, F, H.out.start⟩
    · obtain ⟨K, hK⟩ : ∃ K, K = writesR N L.over D := ⟨_, rfl⟩
      obtain ⟨e1, he1⟩ : ∃ e1, e1 = (L.epoch + 1) % 18446744073709551616 := ⟨_, rfl⟩
      have hRR : R = if K.1 ≠ 0 then (K.1, L.ends K.1, K.2) else clearR (markR N L K.2 e1 0 begin64.toNat) := by rw [HR.out]; unfold homeR; rw [if_neg hd, if_neg hu, ← hK, ← he1]
      have hwr : IntKind.u64.wrap ((L.epoch : Int) + 1) = (e1 : Int) := by rw [wrap_u64, he1]; omega
      have he2 : e1 < 18446744073709551616 := by rw [he1]; exact Nat.mod_lt _ (by decide)
      have hol := homeMap_length h.log.over.rising h.log.overOk
      have hkx : ∀ x ∈ L.over, x.1 < 1000000 := fun x hx => by have := (h.log.overOk x hx).1; unfold homeB at this; rw [decide_eq_true_eq] at this; omega
      obtain ⟨hk1, hk2⟩ := keys_any h.log.over hkx (by omega)
      have hune : ((L.used : Int) == 0) = false := by simp; omega
      have hune2 : (L.used == 0) = false := by simpa using hu
      have HRR := Lib.hid hRR
      have HK1 := Lib.hid hk1
      have HK2 := Lib.hid hk2
      have HK := Lib.hid hK
      have HD := Lib.hid hd'
      have HUU := Lib.hid hu
      have HKX := Lib.hid hkx
      clear he1 hRR hk1 hk2 hK h hd hd' hu hkx HR
      go_enter Try.func42, Try.ntmps42
      go_wp2_with fail
      refine HK1.out.mono ?_
      rintro e w1 ⟨rfl, rfl⟩
      go_wp2_with fail
      refine HK2.out.mono ?_
      rintro e w2 ⟨A, c, rfl, hrow, hb2⟩
      have hS2 := own_slc_of hrow
      have hA : ∀ a, A = some a → ¬ Both F p go gs a.block := fun a ha hb => by
        have h1 := (hrow.lt a.block (by rw [ha]; rfl)).1
        have h2 := HLT.out _ hb
        omega
      have hws : WS w F w2 F p go gs pd N L D := H.out.start.free hb2
      have hwal2 := hws.wal
      obtain ⟨c0, c1, c2, c3, c4, c5, c6, c7, c8, fz⟩ := log_cells hws.wal.log.head
      have HS2 := Lib.hid hS2
      have HA := Lib.hid hA
      have HWS := Lib.hid hws
      have HW2 := Lib.hid hwal2
      clear hrow hb2 hS2 hA hws hwal2
      go_wp2_with fail
      go_loopw [24] (fun s24 wr => ∃ (k : Nat) (Dk : DiskM) (Fk : Nat → Prop), k ≤ L.over.length ∧ s24 = .int .i64 (k : Int) ∧ K = writesR N (L.over.drop k) Dk ∧ Dk.loose.length ≤ D.loose.length + k ∧ WS w2 F wr Fk p go gs pd N L Dk) (fun s24 _ => L.over.length - (intOf s24).toNat)
      case atStart => exact ⟨0, D, F, Nat.zero_le _, rfl, HK.out, Nat.le_refl _, HW2.out.start⟩
      case round =>
        obtain ⟨k, Dk, Fk, hk, rfl, hKk, hlo, hst⟩ := hrel
        obtain ⟨d0, d1, d2, d3, d4, d5, d6, d7, d8, fz2⟩ := log_cells hst.wal.log.head
        by_cases hlt : k < L.over.length
        · have hSk := HS2.out.apart hst.step HA.out
          obtain ⟨b, off, rfl, hbl, hl, hcell⟩ := hSk.nat hlt
          obtain ⟨x, hx⟩ : ∃ x, x = L.over[k] := ⟨_, rfl⟩
          have hmx : (x.1, x.2) ∈ L.over := by rw [hx]; exact List.getElem_mem hlt
          have hget : mget L.over x.1 = some x.2 := (mget_some HW2.out.log.over.rising).2 hmx
          have hxl : x.2.length = 128 := (HW2.out.log.overOk _ hmx).2
          have hcell2 : wr.cell? ⟨b, off + k, none⟩ = some (.int .i64 (x.1 : Int)) := by rw [hcell]; simp [hx]
          have hlook := LookS.plain hst.wal.log.over x.1
          rw [show lookV L.over x.1 = x.2 from by unfold lookV; rw [hget]; rfl] at hlook
          obtain ⟨xa, xb⟩ := x
          simp only at hcell2 hlook hxl
          have hst1 : (StoreS 80 (.pointer (some ⟨wr.heap.size, 0, none⟩)) (secV xb)).run Try.prog (wr.alloc (.cells (zbytes 128) 80)) = .ok () (wr.alloc (.cells (xb.map bv).toArray 80)) := StoreS.new (P := Try.prog) (ty := 80) (t := 80) (c := zbytes 128) (x := (xb.map bv).toArray) (by simp only [List.size_toArray, List.length_map, hxl]; exact i_wsector) (by simp [zbytes_size, hxl]) (fun v hv => bvs_one xb v (by simpa using hv)) wr
          obtain ⟨w3, hw3⟩ : ∃ w3, w3 = wr.alloc (.cells (xb.map bv).toArray 80) := ⟨_, rfl⟩
          have h3 : WS w2 F w3 Fk p go gs pd N L Dk := by rw [hw3]; exact hst.alloc _
          have hB3 : Blk w3 wr.heap.size 80 (xb.map bv).toArray := by rw [hw3]; exact Blk.new _ _ _
          have hS3 := hB3.slc (sz := 1) (n := 128) (c := 128) (by simp [hxl]) (Nat.le_refl _) (by decide)
          rw [Nat.mul_one, List.take_of_length_le (by simp [hxl])] at hS3
          have hsep : ∀ a : Addr, some (⟨wr.heap.size, 0, none⟩ : Addr) = some a → ¬ Fk a.block := fun a ha hf => by
            injection ha with ha; subst ha
            exact absurd (hst.wal.disk.1 _ hf) (Nat.lt_irrefl _)
          have hwr3 := h3.drew.write (xa : Int) (hS3.drew) hsep (by omega)
          have hdrop : L.over.drop k = (xa, xb) :: L.over.drop (k + 1) := by rw [List.drop_eq_getElem_cons hlt, ← hx]
          rw [hdrop, writesR] at hKk
          obtain ⟨E, hE⟩ : ∃ E, E = Dk.writeE N (xa : Int) xb := ⟨_, rfl⟩
          obtain ⟨D1, hD1⟩ : ∃ D1, D1 = Dk.write N (xa : Int) xb := ⟨_, rfl⟩
          have hlo1 : D1.loose.length ≤ D.loose.length + (k + 1) := by rw [hD1]; have := write_loose Dk N (xa : Int) xb; omega
          rw [← hE, ← hD1, hw3] at hwr3
          rw [← hE, ← hD1] at hKk
          have hca := cells_alloc hst.wal.log.head.lt
          have HWR := Lib.hid hwr3
          have HKK := Lib.hid hKk
          clear hSk hbl hl hcell hx hmx hget hxl hw3 h3 hB3 hS3 hsep hwr3 hdrop hE hD1 hKk hst
          go_wp2_with fail
          refine region_tail 6 (by kernel_rfl) (by kernel_rfl) ?_
          simp only [List.take_succ_cons, List.take_zero, List.drop_succ_cons, List.drop_zero]
          repeat still_step
          refine wpStill_nil ?_
          go_wp2_with fail
          refine HWR.out.mono ?_
          rintro e w4 ⟨rfl, F4, h4⟩
          obtain ⟨d0, d1, d2, d3, d4, d5, d6, d7, d8, fz2⟩ := log_cells h4.wal.log.head
          have H4 := Lib.hid h4
          clear h4
          by_cases hE : E = 0
          · subst hE
            have hK2 : K = writesR N (L.over.drop (k + 1)) D1 := by rw [HKK.out, if_neg (by simp)]
            have HK2 := Lib.hid hK2
            clear hK2
            go_wp2_with fail
            exact ⟨⟨k + 1, D1, F4, by omega, by go_num, HK2.out, hlo1, H4.out⟩, by simp [intOf]; omega⟩
          · have hK2 : K = (E, D1) := by rw [HKK.out, if_pos hE]
            have hR2 : R = (E, L.ends E, D1) := by rw [HRR.out, hK2, if_pos hE]
            have HR2 := Lib.hid hR2
            clear hK2 hR2
            go_wp2_with fail
            refine (H4.out.ended E).mono ?_
            rintro e w5 ⟨rfl, h5⟩
            have H5 := Lib.hid h5
            clear h5
            go_wp2_with fail
            go_ret
            rw [HR2.out]
            exact ⟨rfl, F4, HWS.out.trans H5.out⟩
        · obtain rfl : k = L.over.length := by omega
          have hKe : K = (0, Dk) := by rw [hKk, List.drop_of_length_le (Nat.le_refl _)]; rfl
          have hR2 : R = clearR (markR N L Dk e1 0 begin64.toNat) := by rw [HRR.out, hKe, if_neg (by simp)]
          have hmk := mark_any hst.drew (e := e1) (u := 0) (t := begin64.toNat) he2 (by omega) (UInt64.toNat_lt _)
          obtain ⟨M, hM⟩ : ∃ M, M = markR N L Dk e1 0 begin64.toNat := ⟨_, rfl⟩
          rw [← hM] at hmk hR2
          have hM1 : M.1 = 0 → M.2.1.over = L.over := fun h0 => by rw [hM] at h0 ⊢; exact mark_over h0
          have HMK := Lib.hid hmk
          have HR2 := Lib.hid hR2
          have HM1 := Lib.hid hM1
          have hsum := fun W : World => (sum_nil W).mono fun _ _ h => (⟨h.1, h.2.symm⟩ : _ ∧ _)
          have HSUM := Lib.hid hsum
          clear hKe hKk hR2 hmk hM hM1 hst hsum
          go_wp2_with fail
          refine region_tail 7 (by kernel_rfl) (by kernel_rfl) ?_
          simp only [List.take_succ_cons, List.take_zero, List.drop_succ_cons, List.drop_zero]
          still_step
          still_step
          still_step
          still_step
          still_step
          still_step
          still_call (HSUM.out _)
          refine wpStill_nil ?_
          go_wp2_with fail
          refine HMK.out.mono ?_
          rintro e w6 ⟨rfl, F6, h6⟩
          obtain ⟨E, L6, D6⟩ := M
          simp only at h6
          obtain ⟨d0, d1, d2, d3, d4, d5, d6, d7, d8, fz2⟩ := log_cells h6.wal.log.head
          obtain ⟨o, hr, hm⟩ := ClearS.ok h6.wal.log.over
          have h7 := h6.logStep ((Step.refl w6 (Foot p go gs)).objSet (g := go) (.inl (.inr (.inl rfl))) o) (h6.wal.log.putOver hm (fun x hx => by cases hx))
          have H6 := Lib.hid h6
          have H7 := Lib.hid h7
          clear h6 hm h7
          generalize objSet w6 go o = w7 at *
          by_cases hE : E = 0
          · subst hE
            go_wp2_with fail
            go_ret
            rw [HR2.out]
            exact ⟨rfl, F6, HWS.out.trans H7.out⟩
          · go_wp2_with fail
            go_ret
            rw [HR2.out]
            unfold clearR
            rw [if_pos hE]
            exact ⟨rfl, F6, HWS.out.trans H6.out⟩
end
end Go.Proofs.Ytmhgahkainmbkaa
