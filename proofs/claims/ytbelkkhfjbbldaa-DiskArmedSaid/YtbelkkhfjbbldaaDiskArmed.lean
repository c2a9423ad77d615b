/- The walk of the law DiskArmed. -/
import Derived.Test.YtbelkkhfjbbldaaDiskEither
namespace Go.Proofs.Ytbelkkhfjbbldaa
open Go.RowKit Go.ChangeShapes Go.WideShapes
set_option linter.unusedVariables false
set_option linter.unusedSimpArgs false

/-- A disk that is bound to fail behind r deeds, k steps on. -/
structure Bound (r k : Nat) (D : DiskM) : Prop where
  few : D.loose.length ≤ k
  on : k ≤ r → D.up = true ∧ D.armed = true ∧ D.after = (r : Int) - k ∧ D.deeds = 1 + (k : Int)
  off : r < k → D.up = false ∧ D.deeds = 1 + (r : Int)
/-- What its k-th step answers. -/
def boundE (r k : Nat) : Int := if k < r then 0 else if k = r then 41 else 40

theorem wrap64_id (n : Int) (h : -9223372036854775808 ≤ n ∧ n ≤ 9223372036854775807) : wrap64 n = n := by unfold wrap64; omega

theorem crash_bound {r k : Nat} {D : DiskM} (h : Bound r k D) (hk : k = r) (key : UInt64) : Bound r (k + 1) (D.crash key) := by
  obtain ⟨h1, h2, h3, h4⟩ := h.on (by omega)
  unfold DiskM.crash
  rw [if_neg (by simp [h1])]
  exact ⟨Nat.zero_le _, fun h => by omega, fun _ => ⟨rfl, by show D.deeds = _; rw [h4, hk]⟩⟩
theorem deed_bound {r k : Nat} {D : DiskM} (h : Bound r k D) (hr : r ≤ 1000) (hk : k < r) : D.deed.up = true ∧ D.deed.armed = true ∧ D.deed.after = (r : Int) - ((k + 1 : Nat) : Int) ∧ D.deed.deeds = 1 + ((k + 1 : Nat) : Int) := by
  obtain ⟨h1, h2, h3, h4⟩ := h.on (by omega)
  refine ⟨h1, h2, ?_, ?_⟩
  · show wrap64 (D.after - 1) = _
    rw [h3, wrap64_id _ (by omega)]; omega
  · show wrap64 (D.deeds + 1) = _
    rw [h4, wrap64_id _ (by omega)]; omega
theorem fails_bound {r k : Nat} {D : DiskM} (h : Bound r k D) (hk : k ≤ r) : D.fails = decide (k = r) := by
  obtain ⟨h1, h2, h3, h4⟩ := h.on hk
  unfold DiskM.fails
  rw [h2, h3, Bool.true_and]
  by_cases he : k = r
  · subst he; simp
  · rw [decide_eq_false he]
    simp
    omega
theorem flush_off {D : DiskM} (h : D.up = false) : D.flushE = 40 ∧ D.flush = D := by simp [DiskM.flushE, DiskM.flush, h]
theorem flush_fail {D : DiskM} (h : D.up = true) (hf : D.fails = true) : D.flushE = 41 ∧ D.flush = D.crash D.keep := by simp [DiskM.flushE, DiskM.flush, h, hf]
theorem flush_does {D : DiskM} (h : D.up = true) (hf : D.fails = false) : D.flushE = 0 ∧ D.flush = { D.deed with safe := flushed D.now D.loose D.safe, loose := [] } := by simp [DiskM.flushE, DiskM.flush, h, hf]
theorem write_off {D : DiskM} (h : D.up = false) (N : Nat) (i : Int) (l : List UInt8) : D.writeE N i l = 40 ∧ D.write N i l = D := by
  have hm : D.mayE N i = 40 := by unfold DiskM.mayE; rw [if_pos h]
  simp [DiskM.writeE, DiskM.write, hm]
theorem write_fail {D : DiskM} (h : D.up = true) (hf : D.fails = true) {N i : Nat} (hi : i < N) {l : List UInt8} (hl : l.length = 128) : D.writeE N (i : Int) l = 41 ∧ D.write N (i : Int) l = D.crash D.keep := by
  have hm : D.mayE N (i : Int) = 0 := by unfold DiskM.mayE; rw [if_neg (by simp [h]), if_pos (by omega)]
  simp [DiskM.writeE, DiskM.write, hm, hl, hf]
theorem write_does {D : DiskM} (h : D.up = true) (hf : D.fails = false) {N i : Nat} (hi : i < N) {l : List UInt8} (hl : l.length = 128) : D.writeE N (i : Int) l = 0 ∧ D.write N (i : Int) l = { D.deed with now := D.now.set i l, loose := D.loose ++ [(i, l)] } := by
  have hm : D.mayE N (i : Int) = 0 := by unfold DiskM.mayE; rw [if_neg (by simp [h]), if_pos (by omega)]
  simp [DiskM.writeE, DiskM.write, hm, hl, hf]
theorem Bound.stay {r k : Nat} {D : DiskM} (h : Bound r k D) (hk : r < k) : Bound r (k + 1) D := ⟨by have := h.few; omega, fun h => by omega, fun _ => h.off hk⟩
theorem Bound.flush {r k : Nat} {D : DiskM} (h : Bound r k D) (hr : r ≤ 1000) : D.flushE = boundE r k ∧ Bound r (k + 1) D.flush := by
  rcases Nat.lt_or_ge r k with hk | hk
  · obtain ⟨e1, e2⟩ := flush_off (h.off hk).1
    rw [e1, e2]
    exact ⟨by unfold boundE; rw [if_neg (by omega), if_neg (by omega)], h.stay hk⟩
  · have hf := fails_bound h hk
    have h1 := (h.on hk).1
    by_cases he : k = r
    · obtain ⟨e1, e2⟩ := flush_fail h1 (by rw [hf]; simp [he])
      rw [e1, e2]
      exact ⟨by unfold boundE; rw [if_neg (by omega), if_pos he], crash_bound h he _⟩
    · obtain ⟨e1, e2⟩ := flush_does h1 (by rw [hf]; simp [he])
      rw [e1, e2]
      exact ⟨by unfold boundE; rw [if_pos (by omega)], Nat.zero_le _, fun _ => deed_bound h hr (by omega), fun h => by omega⟩
theorem Bound.write {r k N : Nat} {D : DiskM} (h : Bound r k D) (hr : r ≤ 1000) {i : Nat} (hi : i < N) {l : List UInt8} (hl : l.length = 128) : D.writeE N (i : Int) l = boundE r k ∧ Bound r (k + 1) (D.write N (i : Int) l) := by
  rcases Nat.lt_or_ge r k with hk | hk
  · obtain ⟨e1, e2⟩ := write_off (h.off hk).1 N (i : Int) l
    rw [e1, e2]
    exact ⟨by unfold boundE; rw [if_neg (by omega), if_neg (by omega)], h.stay hk⟩
  · have hf := fails_bound h hk
    have h1 := (h.on hk).1
    by_cases he : k = r
    · obtain ⟨e1, e2⟩ := write_fail h1 (by rw [hf]; simp [he]) hi hl
      rw [e1, e2]
      exact ⟨by unfold boundE; rw [if_neg (by omega), if_pos he], crash_bound h he _⟩
    · obtain ⟨e1, e2⟩ := write_does h1 (by rw [hf]; simp [he]) hi hl
      rw [e1, e2]
      exact ⟨by unfold boundE; rw [if_pos (by omega)], by simp only [List.length_append, List.length_singleton]; have := h.few; omega, fun _ => deed_bound h hr (by omega), fun h => by omega⟩
theorem made_deeds (n : Int) : (madeD n []).deeds = 1 := by
  show ((DiskM.fresh (madeN n)).flush).deeds = 1
  rw [(flush_does rfl rfl).2]
  exact (wrap64_id (0 + 1) (by omega)).trans rfl
theorem arm_bound {E : DiskM} {N : Nat} (h : Still E N) (hd : E.deeds = 1) (r : Nat) (key : UInt64) : Bound r 0 (E.arm (r : Int) key) := by
  unfold DiskM.arm
  rw [if_pos h.up]
  exact ⟨by show E.loose.length ≤ 0; rw [h.loose]; exact Nat.le_refl _, fun _ => ⟨h.up, by simp, by simp, by show E.deeds = _; rw [hd]; rfl⟩, fun h => by omega⟩

/-- The kind and the byte of a raw op. -/
theorem op_kind {w : World} {B : Nat} {A : Option Addr} {n c : Nat} {l : List OpM} (h : Slc w B 6 A n c (l.flatMap opCells)) (hl : l.length = n) {k : Nat} (hk : k < n) :
    ∃ b off, ∃ o : OpM, A = some ⟨b, off, none⟩ ∧ ∀ W, Below B w W → W.cell? ⟨b, off + k * 6, none⟩ = some (.int .i64 o.kind) ∧ W.cell? ⟨b, off + k * 6 + 3, none⟩ = some (.int .u8 (o.c.toNat : Int)) := by
  obtain ⟨b, off, e, hkl, x0, x1, x2, x3, x4, x5⟩ := op_cells h hl hk
  refine ⟨b, off, l[k], e, fun W hW => ?_⟩
  obtain ⟨b', off', e', _, y0, y1, y2, y3, y4, y5⟩ := op_cells (h.below hW) hl hk
  rw [e] at e'
  injection e' with e'
  injection e' with e1 e2 _
  subst e1 e2
  exact ⟨y0, y3⟩

set_option maxRecDepth 100000 in
set_option maxHeartbeats 8000000 in
theorem armed_any (w : World) (n : Int) (hn : -9223372036854775808 ≤ n ∧ n ≤ 9223372036854775807) {A : Option Addr} {m c : Nat} {l : List OpM} (hl : l.length = m) (hS : Slc w w.heap.size 6 A m c (l.flatMap opCells))
    (a : Int) (ha : -9223372036854775808 ≤ a ∧ a ≤ 9223372036854775807) (key : UInt64) :
    Calls Try.prog 8 #[.int .i64 n, .slice A m c, .int .i64 a, .int .u64 (key.toNat : Int)] w fun e w' => e = .returned (.bool true) ∧ Below w.heap.size w w' := by
  have hMade := fun (wi : World) (hb : Below w.heap.size w wi) => made_run (w := w) hb n hn (A := none) (m := 0) (c := 0) (l := []) rfl ⟨rfl, Nat.le_refl _, Nat.zero_le _, fun h => absurd h (by decide)⟩ (fun _ h => by cases h)
  have HMADE := Lib.hid hMade
  have hst := made_still n []
  have hde := made_deeds n
  have hN := madeN_le n
  generalize madeD n [] = E at *
  generalize madeN n = N at *
  obtain ⟨ha1, ha2⟩ := ha
  obtain ⟨qa, hqam, hqa⟩ := nonneg_of a ⟨ha1, ha2⟩
  obtain ⟨hN1, hN20⟩ := hN
  obtain ⟨r, hr⟩ : ∃ r, r = qa % 50 := ⟨_, rfl⟩
  have hr50 : r < 50 := by rw [hr]; exact Nat.mod_lt _ (by decide)
  have HR := Lib.hid (show ((qa : Int) % 50) = (r : Int) by rw [hr]; omega)
  clear hr
  have hNe : ((N : Int) == 0) = false := by simp; omega
  have HB := Lib.hid (arm_bound hst hde r key)
  have HDE := Lib.hid hde
  have HL := Lib.hid hl
  have HS := Lib.hid hS
  have hcm : m ≤ 9223372036854775807 := by have h1 := hS.le; have h2 := hS.cmax; simp only [maxLen] at h2; omega
  clear hMade hst hde hl hS hn
  go_enter Try.func8, Try.ntmps8
  go_wp2_with fail
  refine (dshown_any w).mono ?_
  rintro e w1 ⟨rfl, hb1⟩
  go_wp2_with fail
  refine (HMADE.out w1 hb1).mono ?_
  rintro e w2 ⟨p, F2, rfl, R2⟩
  clear hb1 HMADE
  go_upto_region 5 with (fail)
  rcases hqa with ⟨hna, hqa⟩ | ⟨hna, hqa⟩
  focus
    have HQA := Lib.hid hqa
    clear hqa
    go_upto_region 7 with (fail)
    rw [HQA.out]
    clear HQA hna
  rotate_left
  focus
    subst hqa
    go_upto_region 7 with (fail)
    clear hna
  rotate_left
  all_goals
    go_upto_region 8 with (fail)
    rw [HR.out]
    clear HR
    go_wp2_with fail
    refine (deedsAny R2.disk).mono ?_
    rintro e w3 ⟨rfl, rfl⟩
    rw [HDE.out]
    go_wp2_with fail
    refine (R2.arm (r : Int) key).mono ?_
    rintro e w3 ⟨rfl, _, R3⟩
    clear R2
    go_wp2_with fail
    go_loopw [12, 13] (fun d i wr => ∃ (k : Nat) (F' : Nat → Prop) (D : DiskM), k ≤ m ∧ k ≤ 100 ∧ i = .int .i64 (k : Int) ∧ d = .int .i64 (k : Int) ∧ Bound r k D ∧ Run w wr F' p N D) (fun _ i _ => m - (intOf i).toNat)
    case atStart => exact ⟨0, _, _, by omega, by omega, rfl, rfl, HB.out, R3⟩
    case round =>
      obtain ⟨k, F', D, hk, hk100, rfl, rfl, hB, R⟩ := hrel
      clear R3 HB
      by_cases hlt : k < m ∧ k < 100
      · obtain ⟨hlt, hlt100⟩ := hlt
        obtain ⟨b, off, o, rfl, hcells⟩ := op_kind HS.out HL.out hlt
        obtain ⟨x0, x3⟩ := hcells _ R.below
        have HCELLS := Lib.hid hcells
        have HK := Lib.hid hB
        have hroom : D.loose.length ≤ 1000000 := by have := hB.few; omega
        have HROOM := Lib.hid hroom
        clear hcells hroom hB
        obtain ⟨x, hx⟩ : ∃ x, x = k % N := ⟨_, rfl⟩
        have hmod : x < N := by rw [hx]; exact Nat.mod_lt _ (by omega)
        have HX := Lib.hid (show ((k : Int).tmod (N : Int)) = (x : Int) by rw [hx]; rfl)
        clear hx
        have hN0 : ¬ N = 0 := by omega
        have hN0' : ¬ (N : Int) = 0 := by omega
        have HR := Lib.hid R
        have hbd := R.below.drew
        have hbs := R.below.size
        clear R
        have hr1000 : r ≤ 1000 := by omega
        have HEF := Lib.hid (HK.out.flush hr1000)
        have HEW := Lib.hid (HK.out.write (N := N) hr1000 hmod (fulls_length o.c))
        rcases Nat.lt_trichotomy k r with hkr | hkr | hkr
        · have HE := Lib.hid (show boundE r k = 0 by unfold boundE; rw [if_pos hkr])
          have t1 : (k : Int) < (r : Int) := by omega
          have hoff : k < r := by omega
          clear hkr
          by_cases h0 : o.kind = 1
          · have hk0 : (o.kind == 1) = true := by simp [h0]
            clear h0
            go_wp2_with fail
            refine HR.out.flush.mono ?_
            rintro e w4 ⟨rfl, R4⟩
            rw [HEF.out.1, HE.out]
            have HRN := Lib.hid R4
            clear R4
            go_wp2_with fail
            refine ⟨⟨k + 1, F', _, by omega, by omega, by go_num, by go_num, HEF.out.2, HRN.out⟩, by simp [intOf]; omega⟩
          · have hk0 : (o.kind == 1) = false := by simpa using h0
            clear h0
            go_wp2_with fail
            go_region_held (fun W => W.cell? ⟨b, off + k * 6 + 3, none⟩ = some (.int .u8 (o.c.toNat : Int))) (first | exact (HCELLS.out _ (by assumption)).2 | exact (HCELLS.out _ hbd).2)
              (first | (go_at_call 21; refine (lenAny HR.out.drew.disk).mono ?_; rintro e w4 ⟨rfl, rfl⟩) | (go_at_call 24; refine (full_lit _ o.c rfl _).mono ?_; rintro e w5 ⟨g5, rfl, hn5⟩; have hbw5 : Below w.heap.size w w5 := hbd.trans (hn5.below.mono hbs)) | (go_at_call 23; rw [HX.out]; refine (HR.out.drew.write hn5 (x : Int) HROOM.out).mono ?_; rintro e w6 ⟨rfl, F6, _, R6⟩; have hbw6 : Below w.heap.size w w6 := R6.below))
            rw [HEW.out.1, HE.out]
            clear hn5
            have HRN := Lib.hid R6
            clear R6
            go_wp2_with fail
            refine ⟨⟨k + 1, F6, _, by omega, by omega, by go_num, by go_num, HEW.out.2, HRN.out⟩, by simp [intOf]; omega⟩
        · have HE := Lib.hid (show boundE r k = 41 by unfold boundE; rw [if_neg (by omega), if_pos hkr])
          have t1 : ¬ (k : Int) < (r : Int) := by omega
          have t2 : ((k : Int) == (r : Int)) = true := by simp [hkr]
          have hoff : r < k + 1 := by omega
          clear hkr
          by_cases h0 : o.kind = 1
          · have hk0 : (o.kind == 1) = true := by simp [h0]
            clear h0
            go_wp2_with fail
            refine HR.out.flush.mono ?_
            rintro e w4 ⟨rfl, R4⟩
            rw [HEF.out.1, HE.out]
            go_wp2_with fail
            refine (upAny R4.disk).mono ?_
            rintro e w8 ⟨rfl, rfl⟩
            rw [((HEF.out.2).off hoff).1]
            have HRN := Lib.hid R4
            clear R4
            go_wp2_with fail
            refine ⟨⟨k + 1, F', _, by omega, by omega, by go_num, by go_num, HEF.out.2, HRN.out⟩, by simp [intOf]; omega⟩
          · have hk0 : (o.kind == 1) = false := by simpa using h0
            clear h0
            go_wp2_with fail
            go_region_held (fun W => W.cell? ⟨b, off + k * 6 + 3, none⟩ = some (.int .u8 (o.c.toNat : Int))) (first | exact (HCELLS.out _ (by assumption)).2 | exact (HCELLS.out _ hbd).2)
              (first | (go_at_call 21; refine (lenAny HR.out.drew.disk).mono ?_; rintro e w4 ⟨rfl, rfl⟩) | (go_at_call 24; refine (full_lit _ o.c rfl _).mono ?_; rintro e w5 ⟨g5, rfl, hn5⟩; have hbw5 : Below w.heap.size w w5 := hbd.trans (hn5.below.mono hbs)) | (go_at_call 23; rw [HX.out]; refine (HR.out.drew.write hn5 (x : Int) HROOM.out).mono ?_; rintro e w6 ⟨rfl, F6, _, R6⟩; have hbw6 : Below w.heap.size w w6 := R6.below))
            rw [HEW.out.1, HE.out]
            clear hn5
            go_wp2_with fail
            refine (upAny R6.disk).mono ?_
            rintro e w8 ⟨rfl, rfl⟩
            rw [((HEW.out.2).off hoff).1]
            have HRN := Lib.hid R6
            clear R6
            go_wp2_with fail
            refine ⟨⟨k + 1, F6, _, by omega, by omega, by go_num, by go_num, HEW.out.2, HRN.out⟩, by simp [intOf]; omega⟩
        · have HE := Lib.hid (show boundE r k = 40 by unfold boundE; rw [if_neg (by omega), if_neg (by omega)])
          have t1 : ¬ (k : Int) < (r : Int) := by omega
          have t2 : ((k : Int) == (r : Int)) = false := by simp; omega
          have hoff : r < k := by omega
          clear hkr
          by_cases h0 : o.kind = 1
          · have hk0 : (o.kind == 1) = true := by simp [h0]
            clear h0
            go_wp2_with fail
            refine HR.out.flush.mono ?_
            rintro e w4 ⟨rfl, R4⟩
            rw [HEF.out.1, HE.out]
            have HRN := Lib.hid R4
            clear R4
            go_wp2_with fail
            refine ⟨⟨k + 1, F', _, by omega, by omega, by go_num, by go_num, HEF.out.2, HRN.out⟩, by simp [intOf]; omega⟩
          · have hk0 : (o.kind == 1) = false := by simpa using h0
            clear h0
            go_wp2_with fail
            go_region_held (fun W => W.cell? ⟨b, off + k * 6 + 3, none⟩ = some (.int .u8 (o.c.toNat : Int))) (first | exact (HCELLS.out _ (by assumption)).2 | exact (HCELLS.out _ hbd).2)
              (first | (go_at_call 21; refine (lenAny HR.out.drew.disk).mono ?_; rintro e w4 ⟨rfl, rfl⟩) | (go_at_call 24; refine (full_lit _ o.c rfl _).mono ?_; rintro e w5 ⟨g5, rfl, hn5⟩; have hbw5 : Below w.heap.size w w5 := hbd.trans (hn5.below.mono hbs)) | (go_at_call 23; rw [HX.out]; refine (HR.out.drew.write hn5 (x : Int) HROOM.out).mono ?_; rintro e w6 ⟨rfl, F6, _, R6⟩; have hbw6 : Below w.heap.size w w6 := R6.below))
            rw [HEW.out.1, HE.out]
            clear hn5
            have HRN := Lib.hid R6
            clear R6
            go_wp2_with fail
            refine ⟨⟨k + 1, F6, _, by omega, by omega, by go_num, by go_num, HEW.out.2, HRN.out⟩, by simp [intOf]; omega⟩
      · have hk2 : m ≤ k ∨ (k < m ∧ k = 100) := by omega
        by_cases hkr : k ≤ r
        · obtain ⟨hup, _, _, hdd⟩ := hB.on hkr
          have HUP := Lib.hid hup
          have HDD := Lib.hid hdd
          have t1 : (k : Int) ≤ (r : Int) := by omega
          have t2 : ¬ (r : Int) < (k : Int) := by omega
          clear hlt hB hup hdd
          rcases hk2 with hk2 | ⟨hk2, hk3⟩
          · go_wp2_with fail
            refine (deedsAny R.disk).mono ?_
            rintro e w4 ⟨rfl, rfl⟩
            rw [HDD.out]
            go_wp2_with fail
            refine (upAny R.disk).mono ?_
            rintro e w4 ⟨rfl, rfl⟩
            rw [HUP.out]
            go_wp2_with fail
            go_ret
            exact ⟨rfl, R.below⟩
          · exfalso; omega
        · obtain ⟨hup, hdd⟩ := hB.off (by omega)
          have HUP := Lib.hid hup
          have HDD := Lib.hid hdd
          have t1 : ¬ (k : Int) ≤ (r : Int) := by omega
          have t2 : (r : Int) < (k : Int) := by omega
          have t3 : ¬ (100 : Int) ≤ (r : Int) := by omega
          have t4 : (r : Int) < 100 := by omega
          clear hlt hB hup hdd
          rcases hk2 with hk2 | ⟨hk2, rfl⟩
          all_goals
            go_wp2_with fail
            refine (deedsAny R.disk).mono ?_
            rintro e w4 ⟨rfl, rfl⟩
            rw [HDD.out]
            go_wp2_with fail
            refine (upAny R.disk).mono ?_
            rintro e w4 ⟨rfl, rfl⟩
            rw [HUP.out]
            go_wp2_with fail
            go_ret
            first | exact ⟨rfl, R.below⟩ | exact ⟨by show Ending.returned (Value.bool (!decide ((100 : Int) ≤ (r : Int)))) = _; rw [decide_eq_false (by omega : ¬ (100 : Int) ≤ (r : Int))]; rfl, R.below⟩

theorem DiskArmed_walk {H : Type} {enc : TypeId × Value → H} (W : World) (base : Nat) (v0 v1 v2 v3 : Value) (d0 d1 d2 d3 : DataW H) (p0 p1 p2 p3 : List MemPlace)
    (o0 : Value.okWide Try.prog W .any base 3 v0) (o1 : Value.okWide Try.prog W .any base 35 v1) (o2 : Value.okWide Try.prog W .any base 3 v2) (o3 : Value.okWide Try.prog W .any base 22 v3)
    (k0 : DataW.Trod enc Try.prog W 0 (fun _ => true) true 3 v0 d0 p0) (k1 : DataW.Trod enc Try.prog W 0 (fun _ => true) true 35 v1 d1 p1) (k2 : DataW.Trod enc Try.prog W 0 (fun _ => true) true 3 v2 d2 p2) (k3 : DataW.Trod enc Try.prog W 0 (fun _ => true) true 22 v3 d3 p3)
    (hsz : (DataW.weightsEach Try.prog [3, 35, 3, 22] [d0, d1, d2, d3]).all (· ≤ reachBytes) = true) :
    Calls Try.prog 8 #[v0, v1, v2, v3] W fun e w' => e = .returned (.bool true) ∧ Below W.heap.size W w' := by
  obtain ⟨A1, n1, c1, l1, rfl, hl1, hS1, hO1⟩ := open_ops o1 k1 (weights_le hsz (j := 1) rfl rfl)
  obtain ⟨n, rfl, rfl, rfl, wn⟩ := open_int Try.underlying3 o0 k0
  obtain ⟨a, rfl, rfl, rfl, wa⟩ := open_int Try.underlying3 o2 k2
  obtain ⟨k, rfl, rfl, rfl, wk⟩ := open_int Try.underlying22 o3 k3
  obtain ⟨k', rfl⟩ := u64_of_wf wk
  exact armed_any W n (int_wf wn) hl1 hS1 a (int_wf wa) k'
end Go.Proofs.Ytbelkkhfjbbldaa
