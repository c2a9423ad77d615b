/- The walk of the law AllocPlays. -/
import Derived.Test.YtmhgahkainmbkaaAllocPlayH
import Derived.Test.YtmhgahkainmbkaaAllocBackW
import Derived.Lib.Builder
namespace Go.Proofs.Ytmhgahkainmbkaa
open Go.RowKit Go.ChangeShapes Go.WideShapes
set_option linter.unusedVariables false
set_option linter.unusedSimpArgs false
theorem one_bits : ∀ k : Fin 128, bitAt (zsec.set 0 1) k.1 = decide (k.1 = 0) := by decide +kernel
theorem play_new {n : Nat} (h1 : 64 ≤ n) (h2 : n ≤ 1024) : Sim n (mL n) (mD n) (newR n) ∧ Safe n (mL n) (mD n) (newR n) := by
  obtain ⟨_, _, _, _, _, hs, v0, v1, v2⟩ := made_all h1 h2
  have hf := lay_facts h1 h2
  have hv : SimV n ((mL n).val (mD n)) (newR n) := by
    refine ⟨by simp [newR], by simp [newR], fun k hk => ?_, fun k hk => ?_, v0⟩
    · rw [v1, zsec_bit]
      unfold newR
      rw [List.getD_eq_getElem?_getD, List.getElem?_replicate]
      split <;> rfl
    · rw [v2, one_bits ⟨k, by omega⟩]
      unfold newR
      rw [getD_set_bool (by simp; omega)]
      by_cases h0 : k = 0
      · subst h0; rfl
      · rw [List.getD_eq_getElem?_getD, List.getElem?_replicate]
        have h0' : ¬ 0 = k := fun h => h0 h.symm
        simp [h0, h0', hk]
  have e : told (mL n) (mD n).now = (mL n).val (mD n) := by funext k; rw [val_told, hs]; rfl
  exact ⟨⟨hv, ⟨fun k => by rw [hs]; simp [newR, mget], by rw [hs]; rfl⟩⟩, by rw [e]; exact hv, rfl⟩
theorem run_eql_ptr_same {P : Program} {tp te : TypeId} {j : TypeInfo} (a : Addr) (hp : P.underlying tp = some (.pointer te)) (hte : P.info? te = some j) (w : World) :
    (Go.binOp .eql tp (.pointer (some a)) (.pointer (some a))).run P w = .ok (.bool true) w := by
  have h : ∀ d : Nat, (Op.equalIn (d + 1) tp (.pointer (some a)) (.pointer (some a))).run P w = .ok true w := fun d => by
    simp [Op.equalIn, run_underlying hp, sizeOf, typeInfo, hte, run_sameAddr_same]
  simp only [Go.binOp]
  simp [Op.equal, Op.maxDepth, h 9999]
theorem eql_log (p : Nat) (w : World) : (Go.binOp .eql 35 (.pointer (some ⟨p, 0, none⟩)) (.pointer (some ⟨p, 0, none⟩))).run Try.prog w = .ok (.bool true) w := by
  cases hi : Try.prog.info? 77 with
  | none => have h : (Try.prog.info? 77).isSome = true := by kernel_rfl
            rw [hi] at h; cases h
  | some j => exact run_eql_ptr_same ⟨p, 0, none⟩ Try.underlying35 hi w
section
variable {w : World} {wi wj : World} {F F' FR FR' FS FS' : Nat → Prop} {p go gs pd ps pr qs gq n : Nat} {L L' : LogM} {D D' : DiskM} {R R' S S' : RefM}
theorem GRun.wrun (r : GRun (Ground.of w) wi F p go gs pd n L D) : Run w wi F pd n D := ⟨r.below, r.wal.disk, fun k hk => by
  rcases r.kept.next k (.inl hk) with h | h
  · exact h.elim
  · exact h⟩
attribute [local go_sem ↓] load_layout_mark store_layout_mark alloc_layout_mark
attribute [local go_sem] alloc_layout store_layout
set_option maxRecDepth 100000 in
set_option maxHeartbeats 4000000 in
theorem plays_law (w : World) (n : Int) (hn : -9223372036854775808 ≤ n ∧ n ≤ 9223372036854775807) {A : Option Addr} {m c : Nat} {l : List AOp} (hl : l.length = m) (hS : Slc w w.heap.size 2 A m c (l.flatMap aopCells)) (hO : ∀ o ∈ l, AOpOk o) :
    Calls Try.prog 7 #[.int .i64 n, .slice A m c] w fun e w' => e = .returned (.bool true) ∧ Below w.heap.size w w' := by
  have hcm : m ≤ 9223372036854775807 := by have h1 := hS.le; have h2 := hS.cmax; simp only [maxLen] at h2; omega
  obtain ⟨hm1, hm2⟩ := sizeN_le n
  have HSZ := Lib.hid (fun W : World => size_any n hn W)
  generalize sizeN n = K at *
  have HL := Lib.hid hl
  have HS := Lib.hid hS
  have HO := Lib.hid hO
  clear hn hl hS hO
  go_enter Try.func7, Try.ntmps7
  go_wp2_with fail
  refine (ashown_any w).mono ?_
  rintro e w1 ⟨rfl, hb1⟩
  have HB1 := Lib.hid hb1
  clear hb1
  go_wp2_with fail
  refine (HSZ.out _).mono ?_
  rintro e w2 ⟨rfl, rfl⟩
  go_wp2_with fail
  refine (amade_any hm1 (by omega) HB1.out).mono ?_
  rintro e w3 ⟨p, go, gs, pd, ps, F, rfl, hA⟩
  have HA := Lib.hid hA
  clear hA
  go_wp2_with fail
  refine (refNew_any hm1 (by omega) w3).mono ?_
  rintro e w4 ⟨pr, FR, rfl, he4, hr4, hn4⟩
  have hnb := (play_new hm1 (by omega : K ≤ 1024)).1.v.bounds hm1 (by omega)
  have HR4 := Lib.hid (And.intro he4 (And.intro hr4 hn4))
  have HNB := Lib.hid hnb
  clear he4 hr4 hn4 hnb
  go_wp2_with fail
  refine (refClone_any HR4.out.2.1 HNB.out.1 HNB.out.2.1 HNB.out.2.2.1 HNB.out.2.2.2.1 (Nat.zero_le _)).mono ?_
  rintro e w5 ⟨qs, FS, rfl, he5, hr5, hn5⟩
  have hP : ∃ gq, gq = w5.heap.size ∧ PlayW (Ground.of w) (w5.alloc (.cells #[.pointer (some ⟨qs, 0, none⟩)] 62)) F FR FS p go gs pd ps pr qs gq K (mL K) (mD K) (newR K) (newR K) := by
    have e4 := HR4.out.1
    have e45 := e4.trans he5
    have e6 := e45.alloc (.cells #[.pointer (some ⟨qs, 0, none⟩)] 62)
    have z3 := HA.out.log.run.below.size
    have z4 := e4.size
    have z5 := he5.size
    have hps := HA.out.space.lt
    refine ⟨_, rfl, HA.out.free e6, HR4.out.2.1.free (he5.alloc _), hr5.free ((Ext.refl w5).alloc _), Blk.new _ _ _, fun k hk => ?_, fun k hk => ?_, ?_⟩
    · have h1 := HR4.out.2.2 k hk
      have h2 := HR4.out.2.1.lt k hk
      refine ⟨fun hb => ?_, by omega, by omega, Nat.le_trans z3 h1⟩
      have := HA.out.both_lt hb; omega
    · have h1 := hn5 k hk
      have h2 := hr5.lt k hk
      refine ⟨fun hb => ?_, by omega, by omega, Nat.le_trans z3 (by omega), fun hh => ?_⟩
      · have := HA.out.both_lt hb; omega
      · have := HR4.out.2.1.lt k hh; omega
    · refine ⟨fun hb => ?_, by omega, Nat.le_trans z3 (by omega)⟩
      have := HA.out.both_lt hb; omega
  obtain ⟨gq, hgq, hp6⟩ := hP
  have HP6 := Lib.hid hp6
  have HPN := Lib.hid (play_new hm1 (by omega : K ≤ 1024))
  clear he5 hr5 hn5 hp6
  go_wp2_with fail
  rw [← hgq]
  obtain ⟨w6, hw6⟩ : ∃ w6, w6 = w5.alloc (.cells #[.pointer (some ⟨qs, 0, none⟩)] 62) := ⟨_, rfl⟩
  rw [← hw6] at HP6 ⊢
  clear hw6 hgq
  go_loopw [11, 12] (fun i _ wr => ∃ (k : Nat) (F FR FS : Nat → Prop) (qs : Nat) (L : LogM) (D : DiskM) (R S : RefM), k ≤ m ∧ k ≤ 200 ∧ i = .int .i64 (k : Int) ∧ PlayW (Ground.of w) wr F FR FS p go gs pd ps pr qs gq K L D R S ∧ Sim K L D R ∧ Safe K L D S) (fun i _ _ => m - (intOf i).toNat)
  case atStart => exact ⟨0, F, FR, FS, qs, _, _, _, _, by omega, by omega, rfl, HP6.out, HPN.out.1, HPN.out.2⟩
  case round =>
    obtain ⟨k, F1, FR1, FS1, qs1, L1, D1, R1, S1, hk, hk200, rfl, hP, hsim, hsafe⟩ := hrel
    have HP := Lib.hid hP
    have HSM := Lib.hid (And.intro hsim hsafe)
    clear hsim hsafe
    by_cases hlt : k < m ∧ k < 200
    · obtain ⟨hlt, hlt60⟩ := hlt
      obtain ⟨b, off, rfl, hbw, hkl, x0, x1⟩ := aop_cells (HS.out.below hP.run.log.run.below) HL.out hlt
      have hok := HO.out l[k] (List.getElem_mem hkl)
      generalize l[k] = o at *
      have HST := Lib.hid (step_any HP.out HSM.out.1 HSM.out.2 o.kind o.i hok)
      clear hP hok
      go_wp2_with fail
      refine HST.out.mono ?_
      rintro e w7 ⟨rfl, F2, FR2, FS2, qs2, L2, D2, R2, S2, hp7, hs7, hf7⟩
      have HP7 := Lib.hid (And.intro hp7 (And.intro hs7 hf7))
      clear hp7 hs7 hf7
      go_wp2_with fail
      exact ⟨⟨k + 1, F2, FR2, FS2, qs2, L2, D2, R2, S2, by omega, by omega, by go_num, HP7.out.1, HP7.out.2.1, HP7.out.2.2⟩, by simp [intOf]; omega⟩
    · have hk2 : m ≤ k ∨ (k < m ∧ k = 200) := by omega
      clear hlt hP
      rcases hk2 with hk2 | ⟨hk2, rfl⟩
      all_goals
        go_wp2_with fail
        refine (slayout_any HP.out.run.space).mono ?_
        rintro e w7 ⟨rfl, hb7⟩
        have hst := store_layout K w7
        obtain ⟨w8, hw8⟩ : ∃ w8, w8 = w7.alloc (.cells (layCells K).toArray 24) := ⟨_, rfl⟩
        have hY : Blk w8 w7.heap.size 24 (layCells K).toArray := by rw [hw8]; exact Blk.new _ _ _
        have HP8 := Lib.hid (show PlayW (Ground.of w) w8 F1 FR1 FS1 p go gs pd ps pr qs1 gq K L1 D1 R1 S1 by rw [hw8]; exact HP.out.free (hb7.alloc hb7.size _))
        obtain ⟨y1, y2⟩ := lay_cells hY
        rw [hw8] at y1 y2
        have HW8 := Lib.hid hw8
        have hop := HP8.out.run.log.run.wrun.openL HP8.out.run.log.inv
        rw [HP8.out.run.log.base, HP8.out.run.log.size] at hop
        have HOP := Lib.hid hop
        clear hb7 hw8 hY hop
        go_wp2_with fail
        rw [← HW8.out]
        refine HOP.out.mono ?_
        rintro e w9 ⟨p9, go9, gs9, rfl, hb9, hr9⟩
        have hle : ({ base := 1, n := logLen K, epoch := L1.epoch, used := L1.used, sum := L1.sum, over := L1.over, staged := [], dead := L1.dead } : LogM) = { L1 with staged := [] } := by rw [← HP8.out.run.log.base, ← HP8.out.run.log.size]
        rw [hle] at hr9
        clear hle
        have HL9 := Lib.hid (show LRun w w9 F1 p9 go9 gs9 pd K { L1 with staged := [] } D1 from ⟨GRun.of hr9 rfl, HP8.out.run.log.inv.dropI, HP8.out.run.log.armed, HP8.out.run.log.base, HP8.out.run.log.size, HP8.out.run.log.n64⟩)
        have HP9 := Lib.hid (HP8.out.free hb9)
        have HS9 := Lib.hid HSM.out.2.drop
        clear hb9 hr9 y1 y2 hst
        go_wp2_with fail
        refine (aopen_any HL9.out hm1 (by omega)).mono ?_
        rintro e w10 ⟨hb10, hok, _⟩
        obtain ⟨ps10, rfl, hps, hsp⟩ := hok HS9.out.v.head
        have HA10 := Lib.hid (show ARun w w10 F1 p9 go9 gs9 pd ps10 K { L1 with staged := [] } D1 from ⟨HL9.out.free hb10, hsp, fun hf => by have := HL9.out.run.wal.both_lt _ hf; omega⟩)
        have HP10 := Lib.hid (HP9.out.free hb10)
        have hq := HP10.out.ptr.cell 0
        clear hb10 hok hps hsp
        go_wp2_with fail
        refine (step_count HA10.out HP10.out.safe HS9.out 0 9 0 _ (.inr (by decide))).mono ?_
        rintro e w11 ⟨rfl, hb11⟩
        have HA11 := Lib.hid (HA10.out.free hb11)
        clear hb11 hq
        go_wp2_with fail
        refine (slog_any HA11.out.space).mono ?_
        rintro e w12 ⟨rfl, rfl⟩
        have HB12 := Lib.hid HA11.out.log.run.below
        have heq := fun W : World => eql_log p9 W
        go_wp2_with fail
        go_ret
        exact ⟨by simp, HB12.out⟩
end
set_option maxRecDepth 100000 in
theorem AllocPlays_walk {H : Type} {enc : TypeId × Value → H} (W : World) (base : Nat) (v0 v1 : Value) (d0 d1 : DataW H) (p0 p1 : List MemPlace)
    (o0 : Value.okWide Try.prog W .any base 3 v0) (o1 : Value.okWide Try.prog W .any base 46 v1)
    (k0 : DataW.Trod enc Try.prog W 0 (fun _ => true) true 3 v0 d0 p0) (k1 : DataW.Trod enc Try.prog W 0 (fun _ => true) true 46 v1 d1 p1)
    (hsz : (DataW.weightsEach Try.prog [3, 46] [d0, d1]).all (· ≤ reachBytes) = true) :
    Calls Try.prog 7 #[v0, v1] W fun e w' => e = .returned (.bool true) ∧ Below W.heap.size W w' := by
  obtain ⟨A1, n1, c1, l1, rfl, hl1, hS1, hO1⟩ := open_aops o1 k1
  obtain ⟨x, rfl, rfl, rfl, wx⟩ := open_int Try.underlying3 o0 k0
  exact plays_law W x (int_wf wx) hl1 hS1 hO1
end Go.Proofs.Ytmhgahkainmbkaa
