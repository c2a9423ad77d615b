/- The walk of Commit. -/
import Derived.Test.YtmhgahkainmbkaaWalCommitM
import Derived.RangeFuncCalls
import Derived.BigRegionIn
import Derived.Sort.CutIn
import Derived.Stop.RegionWithIn
namespace Go.Proofs.Ytmhgahkainmbkaa
open Go.RowKit
set_option linter.unusedVariables false
set_option linter.unusedSimpArgs false
section
attribute [local go_sem ↓] load_wsector_mark store_wsector_mark alloc_wsector_mark look_mark len_map_mark appendS_mark list_wsector_mark
attribute [local go_sem] alloc_wsector Oper.semAt_some
variable {w wi wj : World} {p go gs pd N : Nat} {L L' : LogM} {F Fi Fj : Nat → Prop} {D D' : DiskM}
theorem WS.shut {W : World} {G : Nat → Prop} (h : WS w F wi Fi p go gs pd N L D) (s : Step W wi (Both G p go gs) (Both Fi p go gs)) {d : Nat} (h1 : w.heap.size ≤ d) (h2 : d < W.heap.size) (h3 : ¬ Both G p go gs d) (o : Obj) : WS w F (wi.putObj d o) Fi p go gs pd N L D := by
  have hn : ¬ Both Fi p go gs d := fun hb => by
    rcases s.next _ hb with h4 | h4
    · exact h3 h4
    · omega
  have hs : Step wi (wi.putObj d o) (fun k => k = d) (fun k => k = d) := ⟨rfl, rfl, rfl, by unfold World.putObj; simp, fun k _ hk => World.putObj_heap_other hk, fun _ h => .inl h⟩
  exact h.past hs (fun k hk => by rw [hk]; exact ⟨h1, hn⟩)
set_option maxRecDepth 100000 in
set_option maxHeartbeats 4000000 in
theorem commit_any (h : Wal w F p go gs pd N L D) (hroom : D.loose.length ≤ 800000) (hcost : costN L.staged.length < L.n) :
    Calls Try.prog 18 #[.pointer (some ⟨p, 0, none⟩)] w (Done3 w F p go gs pd N (commitR N L D)) := by
  obtain ⟨G1, hG1⟩ : ∃ G1, G1 = w.heap.size := ⟨_, rfl⟩
  have hB0 : Blk (w.alloc (.cells #[.pointer (some ⟨p, 0, none⟩)] 35)) w.heap.size 35 #[.pointer (some ⟨p, 0, none⟩)] := Blk.new _ _ _
  have hs0 := h.start.alloc (.cells #[.pointer (some ⟨p, 0, none⟩)] 35)
  have hsz0 : (w.alloc (.cells #[.pointer (some ⟨p, 0, none⟩)] 35)).heap.size = G1 + 1 := by rw [hG1]; simp
  obtain ⟨w0, hw0⟩ : ∃ w0, w0 = w.alloc (.cells #[.pointer (some ⟨p, 0, none⟩)] 35) := ⟨_, rfl⟩
  rw [← hw0] at hB0 hs0 hsz0
  rw [← hG1] at hB0
  obtain ⟨c0, c1, c2, c3, c4, c5, c6, c7, c8, fz⟩ := log_cells hs0.wal.log.head
  have hb0 : w0.cell? ⟨G1, 0, none⟩ = some (.pointer (some ⟨p, 0, none⟩)) := hB0.cell 0
  have HS0 := Lib.hid hs0
  have HB0 := Lib.hid hB0
  have HZ0 := Lib.hid hsz0
  have HG1 := Lib.hid (And.intro hG1 h.both_lt)
  have HOK := Lib.hid h.log.ok
  have hlen := LenS.ok hs0.wal.log.staged
  obtain ⟨R, hR⟩ : ∃ R, R = commitR N L D := ⟨_, rfl⟩
  rw [← hR]
  have HR := Lib.hid hR
  clear hR
  obtain ⟨sl, hsl⟩ : ∃ sl, sl = L.staged.length := ⟨_, rfl⟩
  rw [← hsl] at hlen
  rw [hw0] at c0 c1 c2 c3 c4 c5 c6 c7 c8 fz hb0 hlen
  rw [hG1] at hb0
  have HW0 := Lib.hid hw0
  by_cases hd : L.dead = true
  · have hRR : R = (40, L, D) := by rw [HR.out]; unfold commitR; rw [if_pos hd]
    have HRR := Lib.hid hRR
    rw [hd] at c8
    clear hRR hd h hs0 hB0 hsz0 hG1 hw0 hsl
    go_enter Try.func18, Try.ntmps18
    go_wp2_with fail
    go_ret
    rw [HRR.out]
    exact ⟨rfl, F, by rw [← HW0.out]; exact HS0.out⟩
  · have hd' : L.dead = false := by simpa using hd
    rw [hd'] at c8
    by_cases hn : sl = 0
    · have hRR : R = (0, L, D) := by rw [HR.out]; unfold commitR; rw [if_neg hd, if_pos (by omega)]
      have HRR := Lib.hid hRR
      have hn0 : ((sl : Int) == 0) = true := by simp [hn]
      rw [hn] at hlen
      clear hRR hd h hs0 hB0 hsz0 hG1 hw0 hsl hn
      go_enter Try.func18, Try.ntmps18
      go_wp2_with fail
      go_ret
      rw [HRR.out]
      exact ⟨rfl, F, by rw [← HW0.out]; exact HS0.out⟩
    · have hRR : R = if L.n - 1 < L.used + costN sl then (if (homeR N L D).1 ≠ 0 then homeR N L D else commitM N (homeR N L D).2.1 (homeR N L D).2.2) else commitM N L D := by
        rw [HR.out]; unfold commitR; rw [if_neg hd, if_neg (by omega), ← hsl]
      have HRR := Lib.hid hRR
      have hsl2 : sl ≤ 1024 := by rw [hsl]; have := homeMap_length h.log.staged.rising h.log.stagedOk; have := h.log.ok.most; omega
      have hne0 : ((sl : Int) == 0) = false := by simp; omega
      have hC : ∀ n, Calls Try.prog 39 #[.int .i64 (sl : Int)] ((w.alloc (.cells #[.pointer (some ⟨p, 0, none⟩)] 35)).drewN n) fun e w' => e = .returned (.int .i64 (costN sl : Int)) ∧ w' = (w.alloc (.cells #[.pointer (some ⟨p, 0, none⟩)] 35)).drewN n := fun n => (cost_any sl (by omega) _).mono fun _ _ h => ⟨h.1, h.2.symm⟩
      have hLn : ∀ n, Calls Try.prog 40 #[.pointer (some ⟨p, 0, none⟩)] ((w.alloc (.cells #[.pointer (some ⟨p, 0, none⟩)] 35)).drewN n) fun e w' => e = .returned (.int .i64 ((L.n - 1 : Nat) : Int)) ∧ w' = (w.alloc (.cells #[.pointer (some ⟨p, 0, none⟩)] 35)).drewN n := fun n => (llen_any (by rw [← hw0]; exact (hs0.drewN n).wal.log)).mono fun _ _ h => ⟨h.1, h.2.symm⟩
      obtain ⟨cs, hcs⟩ : ∃ cs, cs = costN sl := ⟨_, rfl⟩
      have hcs2 : cs ≤ 2000 := by rw [hcs]; unfold costN; omega
      have hus := h.log.ok.used
      have hn255 := h.log.ok.n255
      have hwrap : IntKind.i64.wrap ((L.used : Int) + (cs : Int)) = (L.used : Int) + (cs : Int) := IntWalk.i64_in _ (by omega)
      rw [← hcs] at hC
      obtain ⟨ln, hln⟩ : ∃ ln, ln = L.n - 1 := ⟨_, rfl⟩
      rw [← hln] at hLn
      have HC := Lib.hid hC
      have HLN := Lib.hid hLn
      have HLNE := Lib.hid hln
      have HCS := Lib.hid hcs
      have hlenN := fun n : Nat => LenS.ok (hs0.drewN n).wal.log.staged
      rw [hw0, ← hsl] at hlenN
      have HSL := Lib.hid hsl
      have HNE := Lib.hid hn
      have HD' := Lib.hid hd'
      have HCO := Lib.hid hcost
      clear hRR hd hd' h hs0 hB0 hsz0 hG1 hw0 hsl hn hC hLn hcs hln hcost
      refine callsIn_wide.1 (callsIn_of_wp_marks (F := Fence.wide) (n := 8) Try.func18 rfl trivial (wpIn_wide.2 ?_))
      obtain ⟨fn, hfn⟩ : ∃ fn, fn = Try.f18 := ⟨_, rfl⟩
      obtain ⟨Q, hQ⟩ : ∃ Q, Q = bodyPostM Fence.wide 8 Try.prog Try.f18 (Done3 w F p go gs pd N R) := ⟨_, rfl⟩
      have hQ0 : ∀ (t : Array Value) (w9 : World), (∃ v, (results Try.f18 t).run Try.prog w9 = .ok v w9 ∧ Done3 w F p go gs pd N R (.returned v) w9) → Q .ret ⟨t, []⟩ w9 := fun t w9 hv => by rw [hQ]; exact hv
      have hQ1 : ∀ (t : Array Value) (w9 : World) (D2 : Nat), w9.heap[D2]? = some (.deferred (some [])) → (∃ v, (results Try.f18 t).run Try.prog (w9.putObj D2 (.deferred none)) = .ok v (w9.putObj D2 (.deferred none)) ∧ Done3 w F p go gs pd N R (.returned v) (w9.putObj D2 (.deferred none))) → Q .ret ⟨t, [{ target := .collected D2, args := #[] }]⟩ w9 := fun t w9 D2 hk hv => by
        rw [hQ]; exact ⟨by simp, .inl ⟨_, _, rfl, run_takeDeferred hk, hv⟩⟩
      have HQ0 := Lib.hid hQ0
      have HQ1 := Lib.hid hQ1
      rw [← hQ]
      clear hQ0 hQ1 hQ hfn
      simp only [Try.ntmps18, List.size_toArray, List.length_cons, List.length_nil, Nat.reduceAdd, Nat.reduceSub, Array.replicate_succ, Array.replicate_zero, List.push_toArray, List.append_toArray, List.nil_append, List.cons_append]
      go_wp2_with fail
      go_quiet ((first | (go_at_call 39; exact Calls.quiet_of_same (HC.out _)) | (go_at_call 40; exact Calls.quiet_of_same (HLN.out _))))
      go_upto_if 36 with (fail)
      go_cut [3] from 13 (fun s3 wx => ∃ (L1 : LogM) (D1 : DiskM) (F1 : Nat → Prop), (R = commitM N L1 D1 ∧ L1.dead = false ∧ L1.staged = L.staged ∧ L1.used + costN L.staged.length < L1.n ∧ D1.loose.length ≤ D.loose.length) ∧ WS w0 F wx F1 p go gs pd N L1 D1)
      case first =>
        by_cases hC : ln < L.used + cs
        · have hC2 : (ln : Int) < (L.used : Int) + (cs : Int) := by omega
          have hH := home2_any (HS0.out.drewN nq).wal (by omega)
          obtain ⟨M, hM⟩ : ∃ M, M = homeR N L D := ⟨_, rfl⟩
          rw [← hM, HW0.out] at hH
          have hok : M.1 = 0 → M.2.1.dead = false ∧ M.2.1.staged = L.staged ∧ M.2.1.used + costN L.staged.length < M.2.1.n ∧ M.2.2.loose.length ≤ D.loose.length := fun hz => by
            rw [hM] at hz ⊢
            obtain ⟨a1, a2, a3, a4, a5, a6⟩ := homeR_ok HD'.out hz
            exact ⟨a1, a2, by rw [a5, a3]; have := HCO.out; omega, a6⟩
          have hR2 : R = if M.1 ≠ 0 then M else commitM N M.2.1 M.2.2 := by
            rw [HRR.out, if_pos (by have := HLNE.out; have := HCS.out; omega), ← hM]
          have HH := Lib.hid hH
          have HK := Lib.hid hok
          have HR2 := Lib.hid hR2
          clear hM hok hR2 hH hC
          obtain ⟨E, L1, D1⟩ := M
          go_wp2_with fail
          refine HH.out.mono ?_
          rintro e w1 ⟨rfl, F1, h1⟩
          rw [← HW0.out] at h1
          have H2 := Lib.hid ((HS0.out.wal.start.drewN nq).trans h1)
          clear h1
          by_cases hE : E = 0
          · subst hE
            go_wp2_with fail
            go_meet
            case rel =>
              exact ⟨L1, D1, F1, ⟨by rw [HR2.out, if_neg (by simp)], HK.out trivial⟩, H2.out⟩
          · go_wp2_with fail
            (try simp only [Exit.inBlock, Exit.then])
            refine HQ0.out _ _ ⟨_, results_tmp rfl _ _ _, ?_⟩
            rw [HR2.out, if_pos hE]
            exact ⟨rfl, F1, HS0.out.trans H2.out⟩
        · have hC2 : ¬ (ln : Int) < (L.used : Int) + (cs : Int) := by omega
          have hR2 : R = commitM N L D := by
            rw [HRR.out, if_neg (by have := HLNE.out; have := HCS.out; omega)]
          have HR2 := Lib.hid hR2
          have hlt : L.used + costN L.staged.length < L.n := by have := HLNE.out; have := HCS.out; have := HSL.out; have := HOK.out.n4; rw [← HSL.out, ← HCS.out]; omega
          have HLT := Lib.hid hlt
          clear hR2 hC hlt
          go_wp2_with fail
          go_meet
          case rel =>
            exact ⟨L, D, F, ⟨HR2.out, HD'.out, rfl, HLT.out, Nat.le_refl _⟩, by rw [← HW0.out]; exact HS0.out.wal.start.drewN nq⟩
      case rest =>
        rename World => wq
        obtain ⟨L1, D1, F1, hL1, hws⟩ := hcut
        have hB1 := HB0.out.step hws.step (fun hb => by have := HG1.out.2 _ hb; have := HG1.out.1; omega)
        have hws1 := HS0.out.trans hws
        have hlt1 : ∀ k, Both F1 p go gs k → k < wq.heap.size := hws.wal.both_lt
        have hg1n : ¬ Both F1 p go gs G1 := fun hb => by
          rcases hws.step.next _ hb with h1 | h1
          · have := HG1.out.2 _ h1; have := HG1.out.1; omega
          · have := HZ0.out; omega
        have hg1lt := hB1.lt
        obtain ⟨hRM, hdead, hst, hfit, hlo⟩ := hL1
        rw [← hst] at hfit
        have hmne : L1.staged.length ≠ 0 := by rw [hst, ← HSL.out]; exact HNE.out
        have hm1024 : L1.staged.length ≤ 1024 := by rw [hst, ← HSL.out]; exact hsl2
        rw [HG1.out.1] at hB1
        have hst128 : ∀ x ∈ L1.staged, x.2.length = 128 := fun x hx => (hws1.wal.log.stagedOk x hx).2
        have hkx : ∀ x ∈ L1.staged, x.1 < 1000000 := fun x hx => by have := (hws1.wal.log.stagedOk x hx).1; have := hws1.wal.log.ok.most; unfold homeB at *; rw [decide_eq_true_eq] at *; omega
        have hkN : ∀ x ∈ L1.staged, x.1 < 1024 := fun x hx => by have := (hws1.wal.log.stagedOk x hx).1; have := hws1.wal.log.ok.most; unfold homeB at *; rw [decide_eq_true_eq] at *; omega
        obtain ⟨w1, hw1⟩ : ∃ w1, w1 = wq.alloc (.cells #[.slice none 0 0] 86) := ⟨_, rfl⟩
        have hws2 : WS w F w1 F1 p go gs pd N L1 D1 := by rw [hw1]; exact hws1.alloc _
        have hB2 : Blk w1 w.heap.size 35 #[.pointer (some ⟨p, 0, none⟩)] := by rw [hw1]; exact hB1.alloc _
        have hR2 : Blk w1 wq.heap.size 86 #[.slice none 0 0] := by rw [hw1]; exact Blk.new _ _ _
        have hsz1 : w1.heap.size = wq.heap.size + 1 := by rw [hw1]; simp
        obtain ⟨c0, c1, c2, c3, c4, c5, c6, c7, c8, fz⟩ := log_cells hws2.wal.log.head
        have hb0 := hB2.cell 0
        obtain ⟨hk1, hk2⟩ := keys_any hws2.wal.log.staged hkx (by omega)
        rw [hw1] at c0 c1 c2 c3 c4 c5 c6 c7 c8 fz hb0
        rw [hw1] at hk1 hk2
        simp only [World.size_alloc] at hk1 hk2
        have HK1 := Lib.hid hk1
        have HK2 := Lib.hid hk2
        have HW1 := Lib.hid hw1
        have HWS := Lib.hid hws2
        have HB1 := Lib.hid hB2
        have HRB := Lib.hid hR2
        have HSZ := Lib.hid hsz1
        have HFIT := Lib.hid hfit
        have H128 := Lib.hid hst128
        have HKN := Lib.hid hkN
        have HMN := Lib.hid (And.intro hmne hm1024)
        have HLT1 := Lib.hid hlt1
        have HG1N := Lib.hid hg1n
        have HRM := Lib.hid hRM
        have HDEAD := Lib.hid hdead
        have HLO := Lib.hid hlo
        have HG1L := Lib.hid hg1lt
        clear hk1 hk2 hw1 hws2 hB2 hR2 hsz1 hfit hst128 hkx hkN hmne hm1024 hlt1 hg1n hRM hdead hst hlo hg1lt hws1 hws hB1
        go_wp2_with fail
        refine HK1.out.mono ?_
        rintro e w2 ⟨rfl, rfl⟩
        go_wp2_with fail
        refine HK2.out.mono ?_
        rintro e w3 ⟨A, c, rfl, hrow, hb3⟩
        obtain ⟨b, cap, cur, hv, hbge, hheap, hle, hmx, hcz, htk⟩ : ∃ g cap cur, Value.slice A L1.staged.length c = .slice (some ⟨g, 0, none⟩) L1.staged.length cap ∧ wq.heap.size + 1 ≤ g ∧ w3.heap[g]? = some (.cells cur 3 (0, 0)) ∧ L1.staged.length ≤ cap ∧ cap ≤ maxLen ∧ cur.size = cap * 1 ∧ cur.toList.take (L1.staged.length * 1) = (L1.staged.map fun x => x.1).map nv := by
          rcases hrow.2 with ⟨_, h0⟩ | ⟨g, cap, cur, h1, h2⟩
          · exact absurd h0 HMN.out.1
          · exact ⟨g, cap, cur, h1, h2⟩
        injection hv with hv1 hv2 hv3
        subst hv1 hv3
        have hS3 := own_slc_of hrow
        have hb3' : Below (wq.heap.size + 1) w1 w3 := by rw [HW1.out]; simpa only [World.size_alloc] using hb3
        have hz3 := hb3'.size
        rw [HSZ.out] at hz3
        have hws3 : WS w F w3 F1 p go gs pd N L1 D1 := HWS.out.free (by rw [HSZ.out]; exact hb3')
        have hB3 := HB1.out.below hb3' (by have := HB1.out.lt; rw [HSZ.out] at this; exact this)
        have hR3 := HRB.out.below hb3' (by omega)
        have hblt : b < w3.heap.size := (Array.getElem?_eq_some_iff.1 hheap).1
        obtain ⟨w4, hw4⟩ : ∃ w4, w4 = (w3.alloc (.cells #[.slice (some ⟨b, 0, none⟩) L1.staged.length c] 53)).alloc (.cells #[.int .i64 60] 3) := ⟨_, rfl⟩
        have hch : Calls Try.prog 43 #[.slice (some ⟨b, 0, none⟩) L1.staged.length c, .int .i64 60] w3 fun e w' => e = .returned (.func (.func 71) #[] #[.pointer (some ⟨w3.heap.size, 0, none⟩), .pointer (some ⟨w3.heap.size + 1, 0, none⟩)]) ∧ w' = w4 := by
          rw [hw4]; exact (callsIn_wide (n := 6)).1 (chunk_in Fence.wide 6 trivial rfl _ _ _ w3)
        have hz4 : w4.heap.size = w3.heap.size + 2 := by rw [hw4]; simp
        have hb4 : Below w3.heap.size w3 w4 := by rw [hw4]; exact ((Below.refl _ w3).alloc (Nat.le_refl _) _).alloc (by simp) _
        have hws4 : WS w F w4 F1 p go gs pd N L1 D1 := hws3.free hb4
        have hB4 := hB3.below hb4 hB3.lt
        have hR4 := hR3.below hb4 hR3.lt
        have hS4 := hS3.below hb4
        have hBs : w4.cell? ⟨w3.heap.size, 0, none⟩ = some (.slice (some ⟨b, 0, none⟩) L1.staged.length c) := by
          rw [hw4]; exact ((Blk.new w3 53 _).alloc _).cell 0
        have hBk : w4.cell? ⟨w3.heap.size + 1, 0, none⟩ = some (.int .i64 60) := by
          rw [hw4]
          have := (Blk.new (w3.alloc (.cells #[.slice (some ⟨b, 0, none⟩) L1.staged.length c] 53)) 3 #[.int .i64 60]).cell 0
          rwa [World.size_alloc] at this
        have HCH := Lib.hid hch
        have HW4 := Lib.hid hw4
        have HZ4 := Lib.hid hz4
        have HZ3 := Lib.hid hz3
        have HWS4 := Lib.hid hws4
        have HB4 := Lib.hid hB4
        have HR4 := Lib.hid hR4
        have HS4 := Lib.hid hS4
        have HBS := Lib.hid (And.intro hBs hBk)
        have HBLT := Lib.hid (And.intro hbge hblt)
        have HCMX := Lib.hid (And.intro hle hmx)
        clear hch hw4 hz4 hz3 hws4 hws3 hB3 hB4 hR3 hR4 hS3 hS4 hBs hBk hb4 hb3 hb3' hrow hheap hcz htk hbge hblt hle hmx c0 c1 c2 c3 c4 c5 c6 c7 c8 fz hb0
        go_wp2_with fail
        refine HCH.out.mono ?_
        rintro e w5 ⟨rfl, rfl⟩
        go_wp2_with fail
        have hge : wq.heap.size < w5.heap.size ∧ w3.heap.size < w5.heap.size ∧ w3.heap.size + 1 < w5.heap.size ∧ w3.heap.size ≠ wq.heap.size ∧ w3.heap.size + 1 ≠ wq.heap.size := by
          have h1 := HZ4.out; have h2 := HZ3.out; omega
        have HGE := Lib.hid hge
        clear hge
        refine (wpIn_wide (n := 8)).1 ?_
        refine wpIn_rangeFunc_ownG rfl (by omega) (gf := 71) (lb := #[.pointer (some ⟨w3.heap.size, 0, none⟩), .pointer (some ⟨w3.heap.size + 1, 0, none⟩)]) rfl trivial (enters_of Try.func71 (by kernel_rfl) rfl)
          (chunk_stops Fence.wide 7 trivial rfl (by omega) w3.heap.size (w3.heap.size + 1) b 0 L1.staged.length c (by have := HMN.out.2; omega) HCMX.out.1 w5 (KpB w3.heap.size (w3.heap.size + 1)) (fun _ _ h => h) HGE.out.2.1 HGE.out.2.2.1 HBS.out.1 HBS.out.2)
          (fun h k => KpB.trans h k) (fun W l o o' hl _ _ _ => KpB.put W l o' (by have := HGE.out; omega) (by have := HGE.out; omega)) (Below.refl _ _) (fun _ => rfl)
          (fun pre W => CSt w5 W wq.heap.size (rowsL L1.staged pre)) (fun _ _ _ => False)
          (CSt.own HGE.out.1 (rowsL L1.staged)) (fun _ _ _ _ _ hs _ _ => hs)
          ⟨KB.refl _ _ _, .slice none 0 0, HR4.out, ⟨rfl, .inl ⟨rfl, rfl⟩⟩, fun k hk => by cases hk⟩
          ?act ?assign ?body ?done ?stop
        case assign =>
          intro l x W K hK
          gi_wp2
          exact hK
        case stop =>
          intro D2 c2 pre W _ _ hs
          exact absurd hs id
        case body =>
          intro l pre x W hC hpre
          have hfacts : ∀ (W' : World) (r : List (List UInt8)), CSt w5 W' wq.heap.size r → Slc W' w3.heap.size 1 (some ⟨b, 0, none⟩) L1.staged.length c ((L1.staged.map fun x => x.1).map nv) ∧ W'.cell? ⟨w.heap.size, 0, none⟩ = some (.pointer (some ⟨p, 0, none⟩)) ∧ LogAt W' p go gs pd N L1 := fun W' r hc => by
            have hbn : ¬ PB w5.heap.size wq.heap.size b := fun hb => by have h1 := HBLT.out; have h2 := HZ4.out; rcases hb with h3 | h3 <;> omega
            have hgn : ¬ PB w5.heap.size wq.heap.size w.heap.size := fun hb => by have h1 := HG1L.out; have h2 := HG1.out.1; have h3 := HZ4.out; have h4 := HZ3.out; rcases hb with h5 | h5 <;> omega
            refine ⟨HS4.out.apart hc.kb (fun a ha => by injection ha with ha; subst ha; exact hbn), (HB4.out.step hc.kb hgn).cell 0, HWS4.out.wal.log.step hc.kb (fun k hk hb => ?_)⟩
            have h1 := HLT1.out k (.inr hk); have h3 := HZ4.out; have h4 := HZ3.out
            rcases hb with h5 | h5 <;> omega
          have HFACTS := Lib.hid hfacts
          clear hfacts
          have hgW : wq.heap.size < W.heap.size := Nat.lt_of_lt_of_le HGE.out.1 hC.kb.size
          obtain ⟨q, hq⟩ : ∃ q, q = min 60 (L1.staged.length - 60 * x) := ⟨_, rfl⟩
          have hpiece : piece b 0 L1.staged.length x = .slice (some ⟨b, 60 * x, none⟩) q q := by unfold piece; rw [← hq, Nat.zero_add]
          have hbn : ¬ PB w5.heap.size wq.heap.size b := fun hb => by have h1 := HBLT.out; have h2 := HZ4.out; rcases hb with h3 | h3 <;> omega
          have hSk := (HS4.out.apart hC.kb (fun a ha => by injection ha with ha; subst ha; exact hbn)).part (lo := 60 * x) (q := q) (by omega)
          rw [hq, keys_part, ← hq, Nat.zero_add] at hSk
          have hck : (chunkAt L1.staged x).length = q := by rw [chunkAt_length, hq]
          have hq60 : q ≤ 60 := by omega
          have hlist := listed_any W.drew hSk.drew hq60 (fun k hk => by obtain ⟨y, hy, rfl⟩ := List.mem_map.1 hk; have := HKN.out y (chunkAt_mem hy); omega)
          obtain ⟨f, hf⟩ : ∃ f, f = listB ((chunkAt L1.staged x).map (·.1)) := ⟨_, rfl⟩
          have hfl : f.length = 128 := by rw [hf]; exact listB_length (by simpa [hck] using hq60)
          rw [← hf] at hlist
          obtain ⟨A, cc, hcv, hfv⟩ := hC.cell
          obtain ⟨rl, hrn⟩ : ∃ rl, rl = (rowsL L1.staged pre).length := ⟨_, rfl⟩
          rw [← hrn] at hcv
          have hrl : (rowsL L1.staged pre).length ≤ 900000 := by have := rowsL_length L1.staged pre; have := HMN.out.2; unfold pieces at hpre; omega
          have hpush : ∀ w6, Below W.drew.heap.size W.drew w6 → w6.cell? ⟨wq.heap.size, 0, none⟩ = some (.slice A rl cc) ∧ (∀ o, (w6.alloc o).cell? ⟨wq.heap.size, 0, none⟩ = some (.slice A rl cc)) ∧
            ∃ A' c' w9, (AppendS #[86, 86] 86 #[.slice A rl cc, .slice (some ⟨w6.heap.size, 0, none⟩) 1 1]).run Try.prog (w6.alloc (.cells (f.map bv).toArray 80)) = .ok (.slice A' (rl + 1) c') w9 ∧
            (∃ u, w9.cell? ⟨wq.heap.size, 0, none⟩ = some u ∧ w9.frozen? ⟨wq.heap.size, 0, none⟩ = false) ∧ BSt w5 W (w9.setCell ⟨wq.heap.size, 0, none⟩ (.slice A' (rl + 1) c')) wq.heap.size (rowsL L1.staged pre ++ [f]) := fun w6 hb6 => by
            have hc6 : w6.cell? ⟨wq.heap.size, 0, none⟩ = some (.slice A rl cc) := (hb6.cell (p := ⟨wq.heap.size, 0, none⟩) hgW).trans hcv
            have hB6 : BSt w5 W w6 wq.heap.size (rowsL L1.staged pre) := (hC.begin.free (Below.refl _ W).drew).free hb6
            have h7 := hB6.push HGE.out.1 hc6 f hfl (by omega)
            rw [← hrn] at h7
            exact ⟨hc6, fun o => (cells_alloc (Nat.lt_of_lt_of_le hgW hb6.size) o 0).trans hc6, h7⟩
          have hli := fun W : World => list_wsector (cs := (f.map bv).toArray) (by simp [hfl]) W
          have hlist2 := CallsIn.inRound (F := Fence.wide) (n := 5) l (callsIn_wide.2 hlist)
          have HLIST := Lib.hid hlist2
          have HPUSH := Lib.hid hpush
          have HF := Lib.hid (And.intro hf hfl)
          have HQ := Lib.hid (And.intro hq (And.intro hck hq60))
          have HSK := Lib.hid hSk
          have HC := Lib.hid hC
          have HRL := Lib.hid hrl
          rw [hpiece]
          clear hlist hlist2 hpush hf hfl hq hck hq60 hSk hC hpiece hbn hrl hrn
          have hF45 : Fence.wide.fn 46 := trivial
          gi_upto_region 12 with (fail)
          gi_cut [] from 50 (fun wx => BSt w5 W wx wq.heap.size (rowsL L1.staged pre ++ [f]))
          case first =>
            gi_region_with (gi_at_call 46; refine HLIST.out.mono ?_; rintro e w6 ⟨rfl, hb6⟩; obtain ⟨hc6, hca6, A', c', w9, happ, ⟨u9, hu9, hfu9⟩, hB9⟩ := HPUSH.out w6 hb6; have HB9 := Lib.hid hB9; clear hB9)
            all_goals
              gi_wp2
              gi_meet
              case rel => exact HB9.out
          case rest =>
            rename World => wz
            have hcut' := Lib.hid hcut
            obtain ⟨Az, cz, hcz, hfz⟩ := hcut.st.cell
            clear hcut
            gi_wp2
            gi_loopw [57] (fun s57 wr => ∃ j : Nat, j ≤ q ∧ s57 = .int .i64 (j : Int) ∧ BSt w5 W wr wq.heap.size (rowsL L1.staged pre ++ [f] ++ ((chunkAt L1.staged x).take j).map (·.2))) (fun s57 _ => q - (intOf s57).toNat)
            case atStart => exact ⟨0, Nat.zero_le _, rfl, by simpa using hcut'.out⟩
            case round =>
              obtain ⟨j, hj, rfl, hbs⟩ := hrel
              by_cases hlt : j < q
              · have hC2 := hbs.st
                have hq60 := HQ.out.2.2
                obtain ⟨hSw, hbox, hlog⟩ := HFACTS.out _ _ hC2
                have hSp := hSw.part (lo := 60 * x) (q := q) (by have := HQ.out.1; omega)
                have hkp := keys_part L1.staged x
                rw [← HQ.out.1] at hkp
                rw [hkp, Nat.zero_add] at hSp
                obtain ⟨b', off', hbo, hbl, hl, hcell⟩ := hSp.nat hlt
                injection hbo with hbo
                injection hbo with hb1 hb2
                subst hb1 hb2
                have hjl : j < (chunkAt L1.staged x).length := by rw [HQ.out.2.1]; exact hlt
                obtain ⟨y, hy⟩ : ∃ y, y = (chunkAt L1.staged x)[j] := ⟨_, rfl⟩
                have hmy : (y.1, y.2) ∈ L1.staged := chunkAt_mem (by rw [hy]; exact List.getElem_mem hjl)
                have hget : mget L1.staged y.1 = some y.2 := (mget_some hlog.staged.rising).2 hmy
                have hyl : y.2.length = 128 := H128.out _ hmy
                have hcell2 : wr.cell? ⟨b, 60 * x + j, none⟩ = some (.int .i64 (y.1 : Int)) := by rw [hcell]; simp [hy]
                have hlogd := hlog.free (Below.refl _ wr).drew
                have hlook := LookS.plain hlogd.staged y.1
                rw [show lookV L1.staged y.1 = y.2 from by unfold lookV; rw [hget]; rfl] at hlook
                have htk : (chunkAt L1.staged x).take (j + 1) = (chunkAt L1.staged x).take j ++ [y] := by rw [List.take_succ_eq_append_getElem hjl, hy]
                obtain ⟨rows, hrows⟩ : ∃ rows, rows = rowsL L1.staged pre ++ [f] ++ ((chunkAt L1.staged x).take j).map (·.2) := ⟨_, rfl⟩
                have hrows2 : rowsL L1.staged pre ++ [f] ++ ((chunkAt L1.staged x).take (j + 1)).map (·.2) = rows ++ [y.2] := by rw [htk, hrows]; simp
                rw [← hrows] at hbs
                obtain ⟨Ar, cr, hcv, hfv⟩ := hbs.st.cell
                have hrl2 : rows.length ≤ 1000000 := by
                  rw [hrows]; simp only [List.length_append, List.length_cons, List.length_nil, List.length_map, List.length_take]
                  have := HRL.out; have := HQ.out.2.2; omega
                obtain ⟨rl, hrn⟩ : ∃ rl, rl = rows.length := ⟨_, rfl⟩
                have hgr : wq.heap.size < wr.drew.heap.size := Nat.lt_of_lt_of_le HGE.out.1 hbs.st.kb.size
                have hbd := hbs.free (Below.refl _ wr).drew
                have hcd : wr.drew.cell? ⟨wq.heap.size, 0, none⟩ = some (.slice Ar rl cr) := by rw [hrn]; exact hcv
                obtain ⟨A', c', w9, happ, ⟨u9, hu9, hfu9⟩, hB9⟩ := hbd.push HGE.out.1 hcd y.2 hyl hrl2
                rw [← hrn] at happ hB9 hcv
                rw [show wr.drew.heap.size = wr.heap.size from rfl, show wr.drew.alloc (.cells (y.2.map bv).toArray 80) = (wr.alloc (.cells (y.2.map bv).toArray 80)).drew from rfl] at happ
                have hca : ∀ o, (wr.alloc o).cell? ⟨wq.heap.size, 0, none⟩ = some (.slice Ar rl cr) := fun o => (cells_alloc hgr o 0).trans hcd
                have hli : Sem.run Try.prog (ListS 86 1 #[(0, secV y.2)]) wr.drew = .ok (.slice (some ⟨wr.heap.size, 0, none⟩) 1 1) (wr.drew.alloc (.cells (y.2.map bv).toArray 80)) := list_wsector (cs := (y.2.map bv).toArray) (by simp [hyl]) wr.drew
                obtain ⟨d0, d1, d2, d3, d4, d5, d6, d7, d8, fz2⟩ := log_cells hlogd.head
                obtain ⟨e0, e1, e2, e3, e4, e5, e6, e7, e8, fz3⟩ := log_cells hlog.head
                rw [← hrows2] at hB9
                have HB9 := Lib.hid hB9
                clear hC2 hSw hlog hSp hkp hbl hl hcell hy hmy hget hyl hlogd htk hrows hrows2 hrl2 hrn hgr hbd hB9 hbs hjl
                gi_wp2
                gi_region
                all_goals
                  gi_wp2
                  go_roundw
                  case rel => exact ⟨j + 1, by omega, by go_num, HB9.out⟩
                  case measure => simp [intOf]; omega
              · obtain rfl : j = q := by omega
                have hfin : rowsL L1.staged pre ++ [f] ++ ((chunkAt L1.staged x).take j).map (·.2) = rowsL L1.staged (pre ++ [x]) := by
                  rw [rowsL_snoc, List.take_of_length_le (by rw [HQ.out.2.1]; exact Nat.le_refl _)]
                  unfold rowOf
                  rw [← HF.out.1]
                  simp
                rw [hfin] at hbs
                have HBS2 := Lib.hid hbs
                clear hbs hfin
                gi_wp2
                exact ⟨HBS2.out.keep, HBS2.out.kp HC.out HGE.out.2.1 HGE.out.2.2.1 HGE.out.2.2.2.1 HGE.out.2.2.2.2, HBS2.out.st⟩
        case done =>
          intro D2 xs W hD2 hxs hC hK
          have hxs2 : rowsL L1.staged xs = rowsAll L1.staged := by rw [hxs]; rfl
          rw [hxs2] at hC
          have HC := Lib.hid hC
          have HK := Lib.hid hK
          clear hxs hxs2 hC hK
          have hgw := HG1.out.1
          have hz3 := HZ3.out
          have hz4 := HZ4.out
          have hg1l := HG1L.out
          have hpast : ∀ k, PB w5.heap.size wq.heap.size k → w.heap.size ≤ k ∧ ¬ Both F1 p go gs k := fun k hk => by
            have h0 : wq.heap.size ≤ k := by rcases hk with h5 | h5 <;> omega
            exact ⟨by omega, fun hb => by have := HLT1.out k hb; omega⟩
          have hwsW := HWS4.out.past HC.out.kb hpast
          have hboxW : Blk W w.heap.size 35 #[.pointer (some ⟨p, 0, none⟩)] := HB4.out.step HC.out.kb (fun hb => by rcases hb with h5 | h5 <;> omega)
          obtain ⟨v, hBv, hRv⟩ := HC.out.row
          obtain ⟨rows, hrows⟩ : ∃ rows, rows = rowsAll L1.staged := ⟨_, rfl⟩
          rw [← hrows] at hRv
          obtain ⟨A, cc, rfl, hSr⟩ := hRv.slc
          have hsec : Sectors rows := by rw [hrows]; exact rowsTo_sectors H128.out _
          have hrlen : rows.length = costN L1.staged.length := by rw [hrows, rowsAll_length]
          have hfit := HFIT.out
          rw [← hrlen] at hfit
          obtain ⟨rl, hrl⟩ : ∃ rl, rl = rows.length := ⟨_, rfl⟩
          rw [← hrl] at hBv hSr hfit
          have hsepA : ∀ a, A = some a → ¬ Both F1 p go gs a.block := fun a ha hb => by
            have h1 := hRv.foot a.block (by rw [ha]; rfl)
            have h2 := HLT1.out _ hb
            omega
          have hg1n := HG1N.out
          rw [hgw] at hg1n
          have hD2n : ¬ Both F1 p go gs D2 := fun hb => by have := HLT1.out _ hb; omega
          have hD2l : D2 < W.heap.size := (Array.getElem?_eq_some_iff.1 HK.out).1
          have hgn : ¬ Both F1 p go gs wq.heap.size := fun hb => by have := HLT1.out _ hb; omega
          have hokL := hwsW.wal.log.ok
          obtain ⟨KK, hKK⟩ : ∃ KK, KK = putsR N (L1.base + 1 + L1.used) rows D1 := ⟨_, rfl⟩
          obtain ⟨q0, hq0⟩ : ∃ q0, q0 = UInt64.ofNat L1.sum := ⟨_, rfl⟩
          have hq0n : (q0.toNat : Int) = (L1.sum : Int) := by rw [hq0]; have := hokL.sum; simp [UInt64.toNat_ofNat']; omega
          obtain ⟨c0, c1, c2, c3, c4, c5, c6, c7, c8, fz⟩ := log_cells hwsW.wal.log.head
          rw [← hq0n] at c5
          have hbox0 := hboxW.cell 0
          have hrow0 := hBv.cell 0
          have hRR2 : R = if KK.1 ≠ 0 then (KK.1, L1.ends KK.1, KK.2) else commitEnd (markR N L1 KK.2 L1.epoch (L1.used + rl) (updAll q0 rows.flatten).toNat) := by
            rw [HRM.out]; unfold commitM; rw [← hrows, ← hKK, ← hrl, ← hq0]
          have HRR2 := Lib.hid hRR2
          have HSH := Lib.hid (And.intro (show w.heap.size ≤ D2 by omega) hD2l)
          have HWSW := Lib.hid hwsW
          have HBX := Lib.hid hboxW
          have HBV := Lib.hid hBv
          have HSR := Lib.hid hSr
          have HSEP := Lib.hid (And.intro hsepA (And.intro hg1n (And.intro hD2n (And.intro hD2l hgn))))
          have HSEC := Lib.hid (And.intro hsec hrl)
          have HFT := Lib.hid (And.intro hfit hokL)
          have HKK := Lib.hid hKK
          have hn255' := hokL.n255
          have hfits := hokL.fits
          have hmost := hokL.most
          clear hgw hz3 hz4 hg1l hpast hwsW hboxW hBv hRv hSr hsec hrows hrlen hrl hsepA hg1n hD2n hD2l hgn hokL hKK hq0 hq0n hRR2
          dsimp only
          go_wp2_with fail
          go_loopw [8, 77] (fun s8 s77 wr => ∃ (k : Nat) (Dk : DiskM) (Fk : Nat → Prop), k ≤ rl ∧ s77 = .int .i64 (k : Int) ∧ s8 = .int .u64 ((updAll q0 (rows.take k).flatten).toNat : Int) ∧ KK = putsR N (L1.base + 1 + L1.used + k) (rows.drop k) Dk ∧ Dk.loose.length ≤ D1.loose.length + k ∧ WS W F1 wr Fk p go gs pd N L1 Dk) (fun _ s77 _ => rl - (intOf s77).toNat)
          case atStart => exact ⟨0, D1, F1, Nat.zero_le _, rfl, rfl, HKK.out, Nat.le_refl _, HWSW.out.wal.start⟩
          case round =>
            obtain ⟨k, Dk, Fk, hk, rfl, rfl, hKk, hlo, hst⟩ := hrel
            obtain ⟨d0, d1, d2, d3, d4, d5, d6, d7, d8, fz2⟩ := log_cells hst.wal.log.head
            have hbx := (HBX.out.step hst.step HSEP.out.2.1).cell 0
            have hrw := (HBV.out.step hst.step HSEP.out.2.2.2.2).cell 0
            have hlo1 := HLO.out
            have hft := HFT.out.1
            by_cases hlt : k < rl
            · have hSk := HSR.out.apart hst.step HSEP.out.1
              obtain ⟨b2, off2, rfl, hrg, h128⟩ := hSk.sector HSEC.out.1 HSEC.out.2.symm hlt
              have hkl : k < rows.length := by have := HSEC.out.2; omega
              have hdrop : rows.drop k = rows.getD k [] :: rows.drop (k + 1) := by
                rw [List.drop_eq_getElem_cons hkl, List.getD_eq_getElem?_getD, List.getElem?_eq_getElem hkl]; rfl
              have htake : (rows.take (k + 1)).flatten = (rows.take k).flatten ++ rows.getD k [] := by
                rw [List.take_succ_eq_append_getElem hkl, List.flatten_append, List.getD_eq_getElem?_getD, List.getElem?_eq_getElem hkl]; simp
              obtain ⟨x, hx⟩ : ∃ x, x = rows.getD k [] := ⟨_, rfl⟩
              rw [← hx] at hrg h128 hdrop htake
              have hld := LoadS.of_range (P := Try.prog) (ty := 80) hrg u_wsector rfl (by rw [List.length_map, h128]; exact i_wsector)
              have hst1 : (StoreS 80 (.pointer (some ⟨wr.heap.size, 0, none⟩)) (.agg (x.map bv).toArray)).run Try.prog (wr.alloc (.cells (zbytes 128) 80)) = .ok () (wr.alloc (.cells (x.map bv).toArray 80)) := StoreS.new (P := Try.prog) (ty := 80) (t := 80) (c := zbytes 128) (x := (x.map bv).toArray) (by simp only [List.size_toArray, List.length_map, h128]; exact i_wsector) (by simp [zbytes_size, h128]) (fun v hv => bvs_one x v (by simpa using hv)) wr
              obtain ⟨w6, hw6⟩ : ∃ w6, w6 = wr.alloc (.cells (x.map bv).toArray 80) := ⟨_, rfl⟩
              have h3 : WS W F1 w6 Fk p go gs pd N L1 Dk := by rw [hw6]; exact hst.alloc _
              have hB3 : Blk w6 wr.heap.size 80 (x.map bv).toArray := by rw [hw6]; exact Blk.new _ _ _
              have hS3 := hB3.slc (sz := 1) (n := 128) (c := 128) (by simp [h128]) (Nat.le_refl _) (by decide)
              rw [Nat.mul_one, List.take_of_length_le (by simp [h128])] at hS3
              have hnb : ¬ Both Fk p go gs wr.heap.size := fun hf => absurd (hst.wal.both_lt _ hf) (Nat.lt_irrefl _)
              have hsep : ∀ a : Addr, some (⟨wr.heap.size, 0, none⟩ : Addr) = some a → ¬ Both Fk p go gs a.block := fun a ha hf => by
                injection ha with ha; subst ha; exact hnb hf
              have hwr3 := h3.drew.wal.start.write ((L1.base + 1 + L1.used + k : Nat) : Int) (hS3.drew) (fun a ha hf => hsep a ha (.inl hf)) (by omega)
              obtain ⟨E, hE⟩ : ∃ E, E = Dk.writeE N ((L1.base + 1 + L1.used + k : Nat) : Int) x := ⟨_, rfl⟩
              obtain ⟨D2', hD2'⟩ : ∃ D2', D2' = Dk.write N ((L1.base + 1 + L1.used + k : Nat) : Int) x := ⟨_, rfl⟩
              rw [hdrop, putsR, ← hE, ← hD2'] at hKk
              have hlo2 : D2'.loose.length ≤ D1.loose.length + (k + 1) := by rw [hD2']; have := write_loose Dk N ((L1.base + 1 + L1.used + k : Nat) : Int) x; omega
              rw [← hE, ← hD2'] at hwr3
              rw [show ((L1.base + 1 + L1.used + k : Nat) : Int) = (L1.base : Int) + 1 + (L1.used : Int) + (k : Int) by omega, hw6] at hwr3
              have hwr3b := hwr3.mono fun e w' (h : e = .returned (.int .i64 E) ∧ ∃ Fj, WS (wr.alloc (.cells (x.map bv).toArray 80)).drew Fk w' Fj p go gs pd N L1 D2') => (⟨h.1, h.2.elim fun Fj hj => ⟨Fj, by rw [← hw6] at hj; exact h3.drew.trans hj, by rw [← hw6] at hj; exact hS3.drew.apart hj.step hsep⟩⟩ : e = .returned (.int .i64 E) ∧ ∃ Fj, WS W F1 w' Fj p go gs pd N L1 D2' ∧ Slc w' (wr.heap.size + 1) 1 (some ⟨wr.heap.size, 0, none⟩) 128 128 (x.map bv))
              have hca := cells_alloc hst.wal.log.head.lt
              have hcb := cells_alloc (Nat.lt_of_lt_of_le (HBX.out.lt) hst.step.size)
              have HWR := Lib.hid hwr3b
              have HKK2 := Lib.hid hKk
              have HTK := Lib.hid htake
              have HLO2 := Lib.hid hlo2
              clear hSk hkl hdrop htake hx hrg h128 hw6 h3 hB3 hS3 hnb hsep hwr3 hwr3b hE hD2' hKk hlo2 hst
              have hw1 : IntKind.i64.wrap ((L1.base : Int) + 1) = (L1.base : Int) + 1 := IntWalk.i64_in _ (by omega)
              have hw2 : IntKind.i64.wrap ((L1.base : Int) + 1 + (L1.used : Int)) = (L1.base : Int) + 1 + (L1.used : Int) := IntWalk.i64_in _ (by omega)
              have hw3 : IntKind.i64.wrap ((L1.base : Int) + 1 + (L1.used : Int) + (k : Int)) = (L1.base : Int) + 1 + (L1.used : Int) + (k : Int) := IntWalk.i64_in _ (by omega)
              go_wp2_with fail
              refine region_tail 17 (by kernel_rfl) (by kernel_rfl) ?_
              simp only [List.take_succ_cons, List.take_zero, List.drop_succ_cons, List.drop_zero]
              repeat still_step
              refine wpStill_nil ?_
              go_wp2_with fail
              refine HWR.out.mono ?_
              rintro e w7 ⟨rfl, F7, h7, hS7⟩
              have hbx7 := (HBX.out.step h7.step HSEP.out.2.1).cell 0
              have hrw7 := (HBV.out.step h7.step HSEP.out.2.2.2.2).cell 0
              have hupd := update_any (updAll q0 (rows.take k).flatten) (some ⟨wr.heap.size, 0, none⟩) 128 128 _ x w7 hS7
              rw [← updAll_append, ← HTK.out] at hupd
              have HU := Lib.hid hupd
              have H7 := Lib.hid h7
              clear hupd h7 hS7 hbx hrw hca hcb hld hst1 hw1 hw2 hw3 d0 d1 d2 d3 d4 d5 d6 d7 d8 fz2
              by_cases hE0 : E = 0
              · subst hE0
                have hK2 : KK = putsR N (L1.base + 1 + L1.used + k + 1) (rows.drop (k + 1)) D2' := by rw [HKK2.out, if_neg (by simp)]
                have HK2 := Lib.hid hK2
                clear hK2
                go_wp2_with fail
                refine HU.out.mono ?_
                rintro e w8 ⟨rfl, rfl⟩
                go_wp2_with fail
                exact ⟨⟨k + 1, D2', F7, by omega, by go_num, rfl, HK2.out, HLO2.out, H7.out⟩, by simp [intOf]; omega⟩
              · have hK2 : KK = (E, D2') := by rw [HKK2.out, if_pos hE0]
                have hR2 : R = (E, L1.ends E, D2') := by rw [HRR2.out, hK2, if_pos hE0]
                have HR2 := Lib.hid hR2
                clear hK2 hR2
                go_wp2_with fail
                refine (H7.out.ended E).mono ?_
                rintro e w8 ⟨rfl, h8⟩
                have H8 := Lib.hid h8
                have hK8 := (h8.step.block D2 HSEP.out.2.2.2.1 HSEP.out.2.2.1).trans HK.out
                clear h8
                go_wp2_with fail
                refine HQ1.out _ _ D2 hK8 ⟨_, results_tmp rfl _ _ _, ?_⟩
                rw [HR2.out]
                exact ⟨rfl, _, (HWSW.out.trans H8.out).shut H8.out.step HSH.out.1 HSH.out.2 HSEP.out.2.2.1 _⟩
            · obtain rfl : k = rl := by omega
              have hKe : KK = (0, Dk) := by rw [hKk, List.drop_of_length_le (by rw [HSEC.out.2]; exact Nat.le_refl _)]; rfl
              have htk : rows.take k = rows := List.take_of_length_le (by rw [HSEC.out.2]; exact Nat.le_refl _)
              rw [htk]
              obtain ⟨tot, htot⟩ : ∃ tot, tot = (updAll q0 rows.flatten).toNat := ⟨_, rfl⟩
              have htl : tot < 18446744073709551616 := by rw [htot]; exact UInt64.toNat_lt _
              have hR2 : R = commitEnd (markR N L1 Dk L1.epoch (L1.used + k) tot) := by rw [HRR2.out, hKe, if_neg (by simp), htot]
              rw [← htot]
              have hmk := mark_any hst.drew (e := L1.epoch) (u := L1.used + k) (t := tot) HFT.out.2.epoch HFT.out.1 htl
              rw [show ((L1.used + k : Nat) : Int) = (L1.used : Int) + (k : Int) by omega] at hmk
              obtain ⟨M, hM⟩ : ∃ M, M = markR N L1 Dk L1.epoch (L1.used + k) tot := ⟨_, rfl⟩
              rw [← hM] at hmk hR2
              have HMK := Lib.hid hmk
              have HR2 := Lib.hid hR2
              have hw1 : IntKind.i64.wrap ((L1.used : Int) + (k : Int)) = (L1.used : Int) + (k : Int) := IntWalk.i64_in _ (by omega)
              clear hKe hKk hR2 hmk hM hst htk htot htl
              go_wp2_with fail
              refine region_tail 13 (by kernel_rfl) (by kernel_rfl) ?_
              simp only [List.take_succ_cons, List.take_zero, List.drop_succ_cons, List.drop_zero]
              repeat still_step
              refine wpStill_nil ?_
              go_wp2_with fail
              refine HMK.out.mono ?_
              rintro e w7 ⟨rfl, F7, h7⟩
              obtain ⟨E, L7, D7⟩ := M
              simp only at h7
              obtain ⟨d0, d1, d2, d3, d4, d5, d6, d7, d8, fz2⟩ := log_cells h7.wal.log.head
              have hbx7 := (HBX.out.step h7.step HSEP.out.2.1).cell 0
              have H7 := Lib.hid h7
              clear hbx hrw hw1
              by_cases hE0 : E = 0
              · subst hE0
                have hcp := h7.drew.copy
                have HCP := Lib.hid hcp
                clear h7 hcp
                go_wp2_with fail
                refine region_tail 8 (by kernel_rfl) (by kernel_rfl) ?_
                simp only [List.take_succ_cons, List.take_zero, List.drop_succ_cons, List.drop_zero]
                repeat still_step
                refine wpStill_nil ?_
                go_wp2_with fail
                refine HCP.out.mono ?_
                rintro e w8 ⟨rfl, h8⟩
                have hbx8 := (HBX.out.step h8.step HSEP.out.2.1).cell 0
                have H8 := Lib.hid h8
                clear h8 hbx7 d0 d1 d2 d3 d4 d5 d6 d7 d8 fz2
                go_wp2_with fail
                refine H8.out.dropped.mono ?_
                rintro e w9 ⟨rfl, h9⟩
                have H9 := Lib.hid h9
                have hK9 := (h9.step.block D2 HSEP.out.2.2.2.1 HSEP.out.2.2.1).trans HK.out
                clear h9
                go_wp2_with fail
                refine HQ1.out _ _ D2 hK9 ⟨_, results_tmp rfl _ _ _, ?_⟩
                rw [HR2.out]
                unfold commitEnd
                rw [if_neg (by simp)]
                exact ⟨rfl, _, (HWSW.out.trans H9.out).shut H9.out.step HSH.out.1 HSH.out.2 HSEP.out.2.2.1 _⟩
              · have hK7 := (h7.step.block D2 HSEP.out.2.2.2.1 HSEP.out.2.2.1).trans HK.out
                clear h7
                go_wp2_with fail
                refine HQ1.out _ _ D2 hK7 ⟨_, results_tmp rfl _ _ _, ?_⟩
                rw [HR2.out]
                unfold commitEnd
                rw [if_pos hE0]
                exact ⟨rfl, _, (HWSW.out.trans H7.out).shut H7.out.step HSH.out.1 HSH.out.2 HSEP.out.2.2.1 _⟩
end
end Go.Proofs.Ytmhgahkainmbkaa
