/- The walks of the disk's Flush and Write. -/
import Derived.Test.YtmhgahkainmbkaaDisk3
namespace Go.Proofs.Ytmhgahkainmbkaa
open Go.RowKit
set_option linter.unusedVariables false
set_option linter.unusedSimpArgs false

def flushed (now : List (List UInt8)) (l : List (Nat × List UInt8)) (S : List (List UInt8)) : List (List UInt8) := l.foldl (fun S x => S.set x.1 (now.getD x.1 [])) S
theorem flushed_take (now : List (List UInt8)) (l : List (Nat × List UInt8)) (S : List (List UInt8)) (n : Nat) (hn : n < l.length) :
    flushed now (l.take (n + 1)) S = (flushed now (l.take n) S).set l[n].1 (now.getD l[n].1 []) := by
  unfold flushed
  rw [List.take_succ_eq_append_getElem hn, List.foldl_append]
  rfl

def DiskM.flush (D : DiskM) : DiskM :=
  if D.up = false then D else if D.fails then D.crash D.keep else { D.deed with safe := flushed D.now D.loose D.safe, loose := [] }
def DiskM.flushE (D : DiskM) : Int := if D.up = false then 40 else if D.fails then 41 else 0

section
attribute [local go_sem ↓] load_sector_mark store_sector_mark alloc_sector_mark load_loose_mark store_loose_mark alloc_loose_mark copyS_mark
attribute [local go_sem] alloc_sector alloc_loose
variable {w : World} {F : Nat → Prop} {p N : Nat} {D : DiskM}

/-- The loop of Flush, behind the deed. -/
theorem DiskM.deed_now (D : DiskM) : D.deed.now = D.now ∧ D.deed.loose = D.loose ∧ D.deed.safe = D.safe ∧ D.deed.up = D.up ∧ D.deed.armed = D.armed ∧ D.deed.keep = D.keep := ⟨rfl, rfl, rfl, rfl, rfl, rfl⟩

set_option maxRecDepth 100000 in
set_option maxHeartbeats 1000000 in
theorem flush_any (h : Disk w F p N D) :
    Calls Try.prog 68 #[.pointer (some ⟨p, 0, none⟩)] w fun e w' => e = .returned (.int .i64 D.flushE) ∧ Step w w' F F ∧ Disk w' F p N D.flush := by
  have hF := fails_any h
  have HH := Lib.hid h
  obtain ⟨hbd0, vs, vn, vl, h⟩ := h
  have HBD := Lib.hid hbd0
  clear hbd0
  obtain ⟨c0, c1, c2, c3, c4, c5, c6, c7, fz⟩ := head_cells h.head
  cases hu : D.up with
  | false =>
    have hA : D.flush = D := by unfold DiskM.flush; rw [if_pos hu]
    have hE : D.flushE = 40 := by unfold DiskM.flushE; rw [if_pos hu]
    rw [hA, hE]
    rw [hu] at c3
    clear hu hA hE hF h
    go_enter Try.func68, Try.ntmps68
    go_wp2_with fail
    go_ret
    exact ⟨rfl, Step.refl _ _, HH.out⟩
  | true =>
    rw [hu] at c3
    cases hf : D.fails with
    | true =>
      have hA : D.flush = D.crash D.keep := by unfold DiskM.flush; rw [if_neg (by simp [hu]), if_pos hf]
      have hE : D.flushE = 41 := by unfold DiskM.flushE; rw [if_neg (by simp [hu]), if_pos hf]
      have hAF : D.afterFails = D.crash D.keep := by unfold DiskM.afterFails; rw [if_pos hf]
      rw [hA, hE]
      rw [hf, hAF] at hF
      have HF := Lib.hid hF
      clear hu hA hE hF h hf hAF
      go_enter Try.func68, Try.ntmps68
      go_wp2_with fail
      refine HF.out.mono ?_
      rintro e w' ⟨rfl, hS, hD⟩
      clear c0 c1 c2 c3 c4 c5 c6 c7 fz
      go_wp2_with fail
      go_ret
      exact ⟨rfl, hS, hD⟩
    | false =>
      obtain ⟨D1, hD1e⟩ : ∃ D1, D1 = D.deed := ⟨_, rfl⟩
      have hA : D.flush = { D1 with safe := flushed D1.now D1.loose D1.safe, loose := [] } := by subst hD1e; unfold DiskM.flush; rw [if_neg (by simp [hu]), if_neg (by simp [hf])]; rfl
      have hE : D.flushE = 0 := by unfold DiskM.flushE; rw [if_neg (by simp [hu]), if_neg (by simp [hf])]
      have hAF : D.afterFails = D.deed := by unfold DiskM.afterFails; rw [if_neg (by simp [hf])]
      rw [hA, hE]
      rw [hf, hAF, ← hD1e] at hF
      have HF := Lib.hid hF
      clear hu hA hE hF h hf hAF HH hD1e
      go_enter Try.func68, Try.ntmps68
      go_wp2_with fail
      refine HF.out.mono ?_
      rintro e w1 ⟨rfl, hS1, _, vs1, vn1, vl1, hD1⟩
      clear c0 c1 c2 c3 c4 c5 c6 c7 fz
      obtain ⟨c0, c1, c2, c3, c4, c5, c6, c7, fz⟩ := head_cells hD1.head
      obtain ⟨Al, cl, rfl, hsl⟩ := hD1.loose.slc
      have HD1 := Lib.hid hD1
      have hll : D1.loose.length ≤ 9223372036854775807 := by have h1 := hsl.le; have h2 := hsl.cmax; simp only [maxLen] at h2; omega
      clear hsl hD1
      go_wp2_with fail
      go_loopw [17] (fun i wr => ∃ n : Nat, n ≤ D1.loose.length ∧ i = .int .i64 (n : Int) ∧ Step w wr F F ∧ DiskAt wr F p N { D1 with safe := flushed D1.now (D1.loose.take n) D1.safe } vs1 vn1 (.slice Al D1.loose.length cl)) (fun i _ => D1.loose.length - (intOf i).toNat)
      case atStart => exact ⟨0, Nat.zero_le _, rfl, hS1, HD1.out⟩
      case round =>
        obtain ⟨n, hn, rfl, hS, hD⟩ := hrel
        obtain ⟨wo, rfl⟩ : ∃ wo : World, wo = wr := ⟨_, rfl⟩
        obtain ⟨d0, d1, d2, d3, d4, d5, d6, d7, dz⟩ := head_cells hD.head
        clear c0 c1 c2 c3 c4 c5 c6 c7 fz
        by_cases hlt : n < D1.loose.length
        · obtain ⟨gl, cap, cur, hv, hFl, hgl, hB, hnc, hcm, hcs, hcur⟩ := hD.loose.form (by show 0 < D1.loose.length; omega)
          injection hv with hAl _ hcl
          subst hAl hcl
          obtain ⟨gs, caps, curs, rfl, hFs, hgs, hBs, hncs, hcms, hcss, hcurs⟩ := hD.safe.form hD.ok.pos
          obtain ⟨gn, capn, curn, rfl, hFn, hgn, hBn, hncn, hcmn, hcsn, hcurn⟩ := hD.now.form hD.ok.pos
          have hx := hD.ok.loose D1.loose[n] (List.getElem_mem hlt)
          have hle : n * 129 + 129 ≤ cur.size := by rw [hcs]; omega
          have hld := LoadS.same (P := Try.prog) hB u_loose rfl i_loose hle
          have hval : cur.extract (n * 129) (n * 129 + 129) = (looseCells D1.loose[n]).toArray := by
            rw [extract_of_take hcur (by show n * 129 + 129 ≤ D1.loose.length * 129; omega)]
            exact congrArg List.toArray (flatLoose_at hD.ok.loose n hlt)
          rw [hval] at hld
          have hstep := flushed_take D1.now D1.loose D1.safe n hlt
          generalize hxx : D1.loose[n] = x at *
          have hlen : (looseCells x).toArray.size = 129 := by simpa using looseCells_length hx
          have hst := fun W : World => StoreS.new (P := Try.prog) (ty := 119) (t := 119) (c := zloose) (x := (looseCells x).toArray) (by rw [hlen]; exact i_loose) (by rw [hlen, zloose_size]) (fun v hv => looseCells_one x v (by simpa using hv)) W
          have hx0 : ∀ W : World, (W.alloc (.cells (looseCells x).toArray 119)).cell? ⟨W.heap.size, 0, none⟩ = some (.int .i64 (x.1 : Int)) := fun W => by
            rw [(Blk.new W _ _).cell]; rfl
          have hxn : x.1 < D1.now.length := by have := hD.ok.nowLen; rw [show ({ D1 with safe := flushed D1.now (D1.loose.take n) D1.safe } : DiskM).now = D1.now from rfl] at this; omega
          have hslen : (D1.now.getD x.1 []).length = 128 := by
            simp only [List.getD, List.getElem?_eq_getElem hxn, Option.getD_some]
            exact hD.ok.now _ (List.getElem_mem hxn)
          have hln := LoadS.same (P := Try.prog) (w := wo.alloc (.cells (looseCells x).toArray 119)) (g := gn) (o := x.1 * 128) (hBn.alloc _) u_sector rfl i_sector (by rw [hcsn]; omega) (wo.alloc (.cells (looseCells x).toArray 119)).drew rfl
          have hvn : curn.extract (x.1 * 128) (x.1 * 128 + 128) = ((D1.now.getD x.1 []).map bv).toArray := by
            rw [extract_of_take hcurn (by omega)]
            refine congrArg List.toArray ?_
            have := flat_at hD.ok.now x.1 hxn
            simp only [List.getD, List.getElem?_eq_getElem hxn, Option.getD_some]
            exact this
          rw [hvn] at hln
          generalize hss : D1.now.getD x.1 [] = s at *
          have hxs : (s.map bv).toArray.size = 128 := by simpa using hslen
          have hle2 : x.1 * 128 + (s.map bv).toArray.size ≤ curs.size := by rw [hcss, hxs]; omega
          have hs63 := StoreS.of_blk (P := Try.prog) (w := (wo.alloc (.cells (looseCells x).toArray 119)).drew) (ty := 113) ((hBs.alloc (.cells (looseCells x).toArray 119)).drew) (by rw [hxs]; exact i_sector) hle2 (fun v hv => bvs_one s v (by simpa using hv))
          have hx1 : x.1 < N := hx.1
          have hpa := cells_alloc hD.head.lt
          generalize hrow : (curs.toList.take (x.1 * 128) ++ (s.map bv).toArray.toList ++ curs.toList.drop (x.1 * 128 + (s.map bv).toArray.toList.length)).toArray = row at hs63
          have hnewS : DiskAt ((wo.alloc (.cells (looseCells x).toArray 119)).drew.setRow gs row) F p N { D1 with safe := (flushed D1.now (D1.loose.take n) D1.safe).set x.1 s } (.slice (some ⟨gs, 0, none⟩) N caps) (.slice (some ⟨gn, 0, none⟩) N capn) (.slice (some ⟨gl, 0, none⟩) D1.loose.length cl) := by
            subst hrow
            exact (hD.alloc (.cells (looseCells x).toArray 119)).drew.putSafe ((hBs.alloc (.cells (looseCells x).toArray 119)).drew) hx.1 hslen
          have HNEW := Lib.hid hnewS
          have HSTEP := Lib.hid hstep
          clear hD hxx hval hB hcur hcs hle hx hlen hstep hxs hle2 hBs hrow hnewS hvn hss hslen hBn HD1
          go_wp2_with fail
          refine region_tail 15 (by kernel_rfl) (by kernel_rfl) ?_
          simp only [List.take_succ_cons, List.take_zero, List.drop_succ_cons, List.drop_zero]
          repeat still_step
          refine wpStill_nil ?_
          go_wp2_with fail
          refine ⟨⟨n + 1, by omega, by go_num, ((hS.alloc _).drew).setRow (.inl hFs) _, ?_⟩, by simp [intOf]; omega⟩
          rw [HSTEP.out]
          exact HNEW.out
        · obtain rfl : n = D1.loose.length := by omega
          rw [List.take_length] at hD
          have HD := Lib.hid hD
          clear hD HD1
          go_wp2_with fail
          go_ret
          refine ⟨rfl, hS.setCell (p := ⟨p, 2, none⟩) (.inl HD.out.foot) _, .of HBD (by have := hS.size; simpa [World.setCell] using this) (vs := vs1) (vn := vn1) (vl := .slice none 0 0) ?_⟩
          refine HD.out.reHead (fun j hj => ?_) ?_ rfl rfl (Row.nil_ _ _ _ _) (fun x hx => by cases hx)
          · rw [heap_set_far _ _ _ _ _ hj]
          · exact HD.out.head.set_ 2 _
end
end Go.Proofs.Ytmhgahkainmbkaa
