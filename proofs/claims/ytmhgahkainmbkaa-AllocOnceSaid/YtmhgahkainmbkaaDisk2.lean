/- The walks of the disk's Crash, fails, Arm, Start. -/
import Derived.Test.YtmhgahkainmbkaaDisk1
namespace Go.Proofs.Ytmhgahkainmbkaa
open Go.RowKit
set_option linter.unusedVariables false
set_option linter.unusedSimpArgs false

theorem u_loose : Try.prog.underlying 119 = some (.struct #[{ name := "at", type := 3, offset := 0, embedded := false, tag := "", pkgPath := "bootjack/disk", byteOffset := 0 }, { name := "b", type := 113, offset := 1, embedded := false, tag := "", pkgPath := "bootjack/disk", byteOffset := 8 }]) := by kernel_rfl
theorem load_loose_mark (x : Value) : Instr.loadAt 119 x = LoadS 119 x := rfl
theorem store_loose_mark (x v : Value) : Instr.storeAt 119 x v = StoreS 119 x v := rfl
theorem alloc_loose_mark : Instr.alloc 119 true (.tuple #[]) = AllocS 119 := rfl
def zloose : Array Value := (Value.int .i64 0 :: List.replicate 128 (.int .u8 0)).toArray
theorem zloose_size : zloose.size = 129 := by simp [zloose]
theorem alloc_loose (w : World) : Sem.run Try.prog (AllocS 119) w = .ok (.pointer (some ⟨w.heap.size, 0, none⟩)) (w.alloc (.cells zloose 119)) := by kernel_rfl

theorem looseCells_one (x : Nat × List UInt8) : ∀ v ∈ looseCells x, v.oneCell' = true := by
  intro v hv
  rcases List.mem_cons.1 hv with rfl | hv
  · rfl
  · exact bvs_one _ v hv

theorem keeps_test (k : UInt64) (n : Nat) : (bits BinOp.and IntKind.u64 ((k.toNat : Int) / 2 ^ (n % 64)) 1 == 1) = keeps k n := by
  have e : ((k.toNat : Int) / 2 ^ (n % 64)) = ((k.toNat / 2 ^ (n % 64) : Nat) : Int) := by
    rw [Int.natCast_ediv]; simp
  have hlt : k.toNat / 2 ^ (n % 64) < 18446744073709551616 := Nat.lt_of_le_of_lt (Nat.div_le_self _ _) (k.toNat_lt)
  rw [e, show (1 : Int) = ((1 : Nat) : Int) from rfl, u64_and_nat _ _ hlt (by decide)]
  unfold keeps
  rw [Nat.testBit, Nat.shiftRight_eq_div_pow, Nat.and_comm 1]
  generalize k.toNat / 2 ^ (n % 64) = m
  rw [Nat.and_one_is_mod]
  have : m % 2 = 0 ∨ m % 2 = 1 := by omega
  rcases this with h | h <;> simp [h]

section
attribute [local go_sem ↓] load_sector_mark store_sector_mark alloc_sector_mark load_loose_mark store_loose_mark alloc_loose_mark copyS_mark
attribute [local go_sem] alloc_sector alloc_loose
variable {w : World} {F : Nat → Prop} {p N : Nat} {D : DiskM} {vs vn vl : Value}

set_option maxRecDepth 100000 in
theorem crash_any (h : DiskAt w F p N D vs vn vl) (k : UInt64) :
    Calls Try.prog 82 #[.pointer (some ⟨p, 0, none⟩), .int .u64 (k.toNat : Int)] w fun e w' => e = .returned (.tuple #[]) ∧ Step w w' F F ∧ ∃ vl', DiskAt w' F p N (D.crash k) vs vn vl' := by
  obtain ⟨c0, c1, c2, c3, c4, c5, c6, c7, fz⟩ := head_cells h.head
  cases hu : D.up with
  | false =>
    have hD : D.crash k = D := by unfold DiskM.crash; rw [if_pos hu]
    have HH := Lib.hid h
    rw [hu] at c3
    rw [hD]
    clear h hu hD
    go_enter Try.func82, Try.ntmps82
    go_wp2
    refine bodyPost_ret (results_none rfl _ _ _) rfl ?_
    exact ⟨rfl, Step.refl _ _, vl, HH.out⟩
  | true =>
    rw [hu] at c3
    obtain ⟨Al, cl, rfl, _⟩ := h.loose.slc
    have HH := Lib.hid h
    have HU := Lib.hid hu
    clear h hu
    go_enter Try.func82, Try.ntmps82
    go_wp2
    go_loopw [16] (fun i wr => ∃ n : Nat, n ≤ D.loose.length ∧ i = .int .i64 (n : Int) ∧ Step w wr F F ∧ DiskAt wr F p N { D with safe := crashed k (D.loose.take n) D.safe } vs vn (.slice Al D.loose.length cl)) (fun i _ => D.loose.length - (intOf i).toNat)
    case atStart => exact ⟨0, Nat.zero_le _, rfl, Step.refl _ _, HH.out⟩
    case round =>
      obtain ⟨n, hn, rfl, hS, hD⟩ := hrel
      obtain ⟨wo, rfl⟩ : ∃ wo : World, wo = wr := ⟨_, rfl⟩
      obtain ⟨d0, d1, d2, d3, d4, d5, d6, d7, dz⟩ := head_cells hD.head
      by_cases hlt : n < D.loose.length
      · obtain ⟨gl, cap, cur, hv, hFl, hgl, hB, hnc, hcm, hcs, hcur⟩ := hD.loose.form (by omega : 0 < D.loose.length)
        injection hv with hAl _ hcl
        subst hAl hcl
        obtain ⟨gs, caps, curs, rfl, hFs, hgs, hBs, hncs, hcms, hcss, hcurs⟩ := hD.safe.form hD.ok.pos
        have hx := hD.ok.loose D.loose[n] (List.getElem_mem hlt)
        have hle : n * 129 + 129 ≤ cur.size := by rw [hcs]; omega
        have hld := LoadS.same (P := Try.prog) hB u_loose rfl i_loose hle
        have hval : cur.extract (n * 129) (n * 129 + 129) = (looseCells D.loose[n]).toArray := by
          rw [extract_of_take hcur (by omega), flatLoose_at hD.ok.loose n hlt]
        rw [hval] at hld
        generalize hxx : D.loose[n] = x at *
        have hlen : (looseCells x).toArray.size = 129 := by simpa using looseCells_length hx
        have hst := fun W : World => StoreS.new (P := Try.prog) (ty := 119) (t := 119) (c := zloose) (x := (looseCells x).toArray) (by rw [hlen]; exact i_loose) (by rw [hlen, zloose_size]) (fun v hv => looseCells_one x v (by simpa using hv)) W
        have hlm : D.loose.length ≤ 9223372036854775807 := by have : cl ≤ 9223372036854775807 := by simpa [maxLen] using hcm
                                                              have h2 : D.loose.length ≤ cl := hnc
                                                              omega
        have hkt := keeps_test k n
        have hstep := crashed_take k D.loose D.safe n hlt
        rw [hxx] at hstep
        have hx0 : ∀ W : World, (W.alloc (.cells (looseCells x).toArray 119)).cell? ⟨W.heap.size, 0, none⟩ = some (.int .i64 (x.1 : Int)) := fun W => by
          rw [(Blk.new W _ _).cell]; rfl
        have hl63 := LoadS.same (P := Try.prog) (w := wo.alloc (.cells (looseCells x).toArray 119)) (g := wo.heap.size) (o := 1) (Blk.new _ _ _) u_sector rfl i_sector (by rw [hlen]; omega)
        have hv63 : (looseCells x).toArray.extract 1 (1 + 128) = (x.2.map bv).toArray := by
          apply Array.ext'
          rw [Array.toList_extract, List.extract_eq_take_drop]
          simp only [looseCells, List.drop_succ_cons, List.drop_zero]
          rw [List.take_of_length_le (by simp; omega)]
        rw [hv63] at hl63
        replace hl63 := hl63 (wo.alloc (.cells (looseCells x).toArray 119)).drew rfl
        have hxs : (x.2.map bv).toArray.size = 128 := by simpa using hx.2
        have hle2 : x.1 * 128 + (x.2.map bv).toArray.size ≤ curs.size := by rw [hcss, hxs]; omega
        have hs63 := StoreS.of_blk (P := Try.prog) (w := (wo.alloc (.cells (looseCells x).toArray 119)).drew) (ty := 113) ((hBs.alloc (.cells (looseCells x).toArray 119)).drew) (by rw [hxs]; exact i_sector) hle2 (fun v hv => bvs_one x.2 v (by simpa using hv))
        have hx1 : x.1 < N := hx.1
        have hpa := cells_alloc hD.head.lt
        have HX := Lib.hid hxx
        have HD := Lib.hid hD
        have HXO := Lib.hid hx
        have HSTEP := Lib.hid hstep
        generalize hrow : (curs.toList.take (x.1 * 128) ++ (x.2.map bv).toArray.toList ++ curs.toList.drop (x.1 * 128 + (x.2.map bv).toArray.toList.length)).toArray = row at hs63
        have hnewS : DiskAt ((wo.alloc (.cells (looseCells x).toArray 119)).drew.setRow gs row) F p N { D with safe := (crashed k (D.loose.take n) D.safe).set x.1 x.2 } (.slice (some ⟨gs, 0, none⟩) N caps) vn (.slice (some ⟨gl, 0, none⟩) D.loose.length cl) := by
          subst hrow
          exact (hD.alloc (.cells (looseCells x).toArray 119)).drew.putSafe ((hBs.alloc (.cells (looseCells x).toArray 119)).drew) hx.1 hx.2
        have HNEW := Lib.hid hnewS
        clear hD hxx hval hB hcur hcs hle hx hlen hstep hv63 hxs hle2 fz c0 c1 c2 c3 c4 c5 c6 c7 hBs hrow hnewS
        cases hk : keeps k n with
        | false =>
          rw [hk] at hkt
          go_wp2_with fail
          refine ⟨⟨n + 1, by omega, by go_num, hS.alloc _, ?_⟩, by simp [intOf]; omega⟩
          rw [HSTEP.out, hk]
          exact HD.out.alloc _
        | true =>
          rw [hk] at hkt
          go_wp2_with fail
          refine region_tail 9 (by kernel_rfl) (by kernel_rfl) ?_
          simp only [List.take_succ_cons, List.take_zero, List.drop_succ_cons, List.drop_zero]
          repeat still_step
          refine wpStill_nil ?_
          go_wp2_with fail
          refine ⟨⟨n + 1, by omega, by go_num, ((hS.alloc _).drew).setRow (.inl hFs) _, ?_⟩, by simp [intOf]; omega⟩
          rw [HSTEP.out, hk]
          exact HNEW.out
      · obtain rfl : n = D.loose.length := by omega
        rw [List.take_length] at hD
        obtain ⟨gs, caps, curs, rfl, hFs, hgs, hBs, hncs, hcms, hcss, hcurs⟩ := hD.safe.form hD.ok.pos
        obtain ⟨gn, capn, curn, rfl, hFn, hgn, hBn, hncn, hcmn, hcsn, hcurn⟩ := hD.now.form hD.ok.pos
        have hSl : (crashed k D.loose D.safe).length = N := hD.ok.safeLen
        have hSS : Sectors (crashed k D.loose D.safe) := hD.ok.safe
        have hfl := flat_length hSS
        have hcp := CopyS.of_blk (P := Try.prog) (w := wo.drew) (dT := 109) (sT := 109) (ty := 3) (elem := 113) (sz := 128) (g := gn) (o := 0) (dLen := N) (dCap := capn) (sLen := N) (sCap := caps) (a := ⟨gs, 0, none⟩) (cs := flat (crashed k D.loose D.safe))
          Try.underlying109 i_sector hBn.drew (by rw [hfl, hSl, Nat.min_self]) (fun j v hj => by
            rw [addr_of_add, Nat.zero_add, hBs.drew.cell]
            have hj2 : (curs.toList.take (N * 128))[j]? = some v := by rw [hcurs]; exact hj
            rw [List.getElem?_take] at hj2
            split at hj2
            · simpa using hj2
            · cases hj2) (by rw [hfl, hSl, hcsn]; omega) (fun v hv => by
            obtain ⟨s, _, hs⟩ := List.mem_flatMap.1 hv
            exact bvs_one s v hs)
        generalize hrow : (curn.toList.take 0 ++ flat (crashed k D.loose D.safe) ++ curn.toList.drop (0 + (flat (crashed k D.loose D.safe)).length)).toArray = row at hcp
        have hnewS : DiskAt (wo.drew.setRow gn row) F p N { D with safe := crashed k D.loose D.safe, now := crashed k D.loose D.safe } (.slice (some ⟨gs, 0, none⟩) N caps) (.slice (some ⟨gn, 0, none⟩) N capn) (.slice Al D.loose.length cl) := by
          subst hrow
          have := hD.drew.allNow hBn.drew hSS hSl
          simpa using this
        have hS3 : Step w (wo.drew.setRow gn row) F F := hS.drew.setRow (.inl hFn) _
        obtain ⟨e0, e1, e2, e3, e4, e5, e6, e7, ez⟩ := head_cells hnewS.head
        have HNEW := Lib.hid hnewS
        have HS3 := Lib.hid hS3
        clear hD hS hSl hSS hfl hBs hBn hcurs hcurn hcss hcsn hrow hnewS hS3 c0 c1 c2 c3 c4 c5 c6 c7 fz
        go_wp2_with fail
        refine region_tail 8 (by kernel_rfl) (by kernel_rfl) ?_
        simp only [List.take_succ_cons, List.take_zero, List.drop_succ_cons, List.drop_zero]
        repeat still_step
        refine wpStill_nil ?_
        generalize wo.drew.setRow gn row = W3 at *
        go_wp2_with fail
        go_end0
        refine ⟨rfl, ((HS3.out.setCell (p := ⟨p, 2, none⟩) (.inl HNEW.out.foot) _).setCell (p := ⟨p, 3, none⟩) (.inl HNEW.out.foot) _).setCell (p := ⟨p, 5, none⟩) (.inl HNEW.out.foot) _, .slice none 0 0, ?_⟩
        have hDc : D.crash k = { D with safe := crashed k D.loose D.safe, now := crashed k D.loose D.safe, loose := [], up := false, armed := false } := by
          unfold DiskM.crash; rw [if_neg (by simp [HU.out])]
        rw [hDc]
        refine HNEW.out.reHead (fun j hj => ?_) ?_ rfl rfl (Row.nil_ _ _ _ _) (fun x hx => by cases hx)
        · rw [heap_set_far _ _ _ _ _ hj, heap_set_far _ _ _ _ _ hj, heap_set_far _ _ _ _ _ hj]
        · exact ((HNEW.out.head.set_ 2 _).set_ 3 _).set_ 5 _
end
end Go.Proofs.Ytmhgahkainmbkaa
