/- The walks of size and made. The walks of size and made. The walk of the examples at the head of the laws on spaces. -/
import Derived.Test.YtmhgahkainmbkaaAllocD
namespace Go.Proofs.Ytmhgahkainmbkaa
open Go.RowKit
set_option linter.unusedVariables false
set_option linter.unusedSimpArgs false

theorem stageE_is {N : Nat} {L : LogM} {D : DiskM} (h : LInv N L D) {i : Nat} (hh : homeB N L (i : Int) = true) : L.stageE N (i : Int) 128 = if mget L.staged i = none ∧ L.n - 1 < costN (L.staged.length + 1) then 45 else 0 := by
  unfold LogM.stageE
  rw [if_neg (by simp [h.alive]), if_neg (by simp [hh]), if_neg (by simp)]
  rfl
/-- Where there is room a home is staged. -/
theorem stage_room {N : Nat} {L : LogM} {D : DiskM} (h : LInv N L D) {i : Nat} (hh : homeB N L (i : Int) = true) (hr : costN (L.staged.length + 1) < L.n) (l : List UInt8) : L.stageE N (i : Int) 128 = 0 ∧ L.stage N (i : Int) 128 l = { L with staged := mput L.staged i l } := by
  have he : L.stageE N (i : Int) 128 = 0 := by
    rw [stageE_is h hh, if_neg]
    rintro ⟨_, h2⟩
    omega
  refine ⟨he, ?_⟩
  unfold LogM.stage
  rw [he, if_pos rfl]
  rfl
theorem home_at {n : Nat} {L : LogM} (hb : L.base = 1) (hn : L.n = logLen n) {k : Nat} (hk : k = 0 ∨ lMap n ≤ k) (hkn : k < n) : homeB n L (k : Int) = true := by
  unfold homeB
  rw [decide_eq_true_eq, hb, hn]
  unfold lMap at hk
  omega
def mL0 (n : Nat) : LogM := newL 1 (logLen n)
def mD0 (n : Nat) : DiskM := newD n 1 (logLen n)
def mL1 (n : Nat) : LogM := (aformatR n (mL0 n)).2
def mL (n : Nat) : LogM := (commitR n (mL1 n) (mD0 n)).2.1
def mD (n : Nat) : DiskM := (commitR n (mL1 n) (mD0 n)).2.2
theorem put_len {m : SecMap} (hm : Rising m) (k : Nat) (x : List UInt8) : (mput m k x).length ≤ m.length + 1 := by
  rw [mput_length hm]; split <;> omega
theorem costN_small {k : Nat} (h : k ≤ 13) : costN k ≤ 14 := by unfold costN; omega
theorem format_facts {n : Nat} (h1 : 64 ≤ n) (h2 : n ≤ 1024) : (aformatR n (mL0 n)).1 = 0 ∧ LInv n (mL1 n) (mD0 n) ∧ (mD0 n).armed = false ∧ (mL1 n).base = 1 ∧ (mL1 n).n = logLen n ∧ (mL1 n).val (mD0 n) 0 = headB n ∧ (mL1 n).val (mD0 n) (lMap n) = zsec ∧ (mL1 n).val (mD0 n) (lNodes n) = zsec.set 0 1 := by
  obtain ⟨f1, f2, f3, f4, f5, f6, f7, f8, f9⟩ := lay_facts h1 h2
  obtain ⟨_, hi0, ha, _⟩ := new_facts (N := n) (b := 1) (k := logLen n) (by omega) (by omega) (by omega) h2
  have hb0 : (mL0 n).base = 1 := rfl
  have hn0 : (mL0 n).n = logLen n := rfl
  have hs0 : (mL0 n).staged = [] := rfl
  have q0 := stage_room (L := mL0 n) (D := mD0 n) hi0 (i := 0) (home_at hb0 hn0 (.inl rfl) (by omega)) (by rw [hs0, hn0]; simp [costN]; omega) (headB n)
  have i1 := (LInv.stageI (L := mL0 n) (D := mD0 n) hi0 (k := 0) (home_at hb0 hn0 (.inl rfl) (by omega)) (headB_length n)).2
  obtain ⟨La, hLa⟩ : ∃ La, La = (mL0 n).stage n ((0 : Nat) : Int) 128 (headB n) := ⟨_, rfl⟩
  rw [← hLa] at i1 q0
  have hsa : La.staged = [(0, headB n)] := by rw [q0.2]; rfl
  have hba : La.base = 1 := i1.2.1
  have hna : La.n = logLen n := i1.2.2.1
  have q1 := stage_room i1.1 (i := lMap n) (home_at hba hna (.inr (Nat.le_refl _)) (by omega)) (by rw [hsa, hna]; simp [costN]; omega) zsec
  have i2 := (LInv.stageI i1.1 (k := lMap n) (home_at hba hna (.inr (Nat.le_refl _)) (by omega)) (l := zsec) (by simp [zsec])).2
  obtain ⟨Lb, hLb⟩ : ∃ Lb, Lb = La.stage n (lMap n : Int) 128 zsec := ⟨_, rfl⟩
  rw [← hLb] at i2 q1
  have hbb : Lb.base = 1 := i2.2.1.trans hba
  have hnb : Lb.n = logLen n := i2.2.2.1.trans hna
  have hsb : Lb.staged = mput La.staged (lMap n) zsec := by rw [q1.2]
  have hlb : Lb.staged.length ≤ 2 := by rw [hsb]; have := put_len i1.1.staged (lMap n) zsec; rw [hsa] at this ⊢; simpa using this
  have hc3 : costN (Lb.staged.length + 1) < Lb.n := by rw [hnb]; unfold costN; omega
  have q2 := stage_room i2.1 (i := lNodes n) (home_at hbb hnb (.inr (by omega)) (by omega)) hc3 (zsec.set 0 1)
  have i3 := (LInv.stageI i2.1 (k := lNodes n) (home_at hbb hnb (.inr (by omega)) (by omega)) (l := zsec.set 0 1) (by simp [zsec])).2
  have hf : aformatR n (mL0 n) = (0, Lb.stage n (lNodes n : Int) 128 (zsec.set 0 1)) := by
    unfold aformatR
    rw [show (mL0 n).stage n 0 128 (headB n) = La from hLa.symm, ← hLb, show (mL0 n).stageE n 0 128 = 0 from q0.1, if_neg (by simp), q1.1, if_neg (by simp), q2.1]
  have hm1 : mL1 n = Lb.stage n (lNodes n : Int) 128 (zsec.set 0 1) := by unfold mL1; rw [hf]
  have hst : (mL1 n).staged = mput (mput La.staged (lMap n) zsec) (lNodes n) (zsec.set 0 1) := by rw [hm1, q2.2, ← hsb]
  have hv : ∀ k, mget (mL1 n).staged k = if k = lNodes n then some (zsec.set 0 1) else if k = lMap n then some zsec else mget La.staged k := fun k => by
    rw [hst, mget_put (mput_rising i1.1.staged _ _), mget_put i1.1.staged]
  have hval : ∀ k x, mget (mL1 n).staged k = some x → (mL1 n).val (mD0 n) k = x := fun k x hx => by rw [val_told, hx]; rfl
  rw [hm1] at hv hval ⊢
  refine ⟨by rw [hf], i3.1, ha, i3.2.1.trans hbb, i3.2.2.1.trans hnb, hval _ _ ?_, hval _ _ ?_, hval _ _ ?_⟩
  · rw [hv, if_neg (by omega), if_neg (by omega), hsa]; rfl
  · rw [hv, if_neg (by omega), if_pos rfl]
  · rw [hv, if_pos rfl]
theorem made_all {n : Nat} (h1 : 64 ≤ n) (h2 : n ≤ 1024) : (commitR n (mL1 n) (mD0 n)).1 = 0 ∧ LInv n (mL n) (mD n) ∧ (mD n).armed = false ∧ (mL n).base = 1 ∧ (mL n).n = logLen n ∧ (mL n).staged = [] ∧ (mL n).val (mD n) 0 = headB n ∧ (mL n).val (mD n) (lMap n) = zsec ∧ (mL n).val (mD n) (lNodes n) = zsec.set 0 1 := by
  obtain ⟨f1, f2, f3, f4, f5, f6, f7, f8, f9⟩ := lay_facts h1 h2
  obtain ⟨_, hi, ha, hb, hn, v0, v1, v2⟩ := format_facts h1 h2
  have hc := hi.commitI ha
  have hv : ∀ k, (k = 0 ∨ lMap n ≤ k) → k < n → (mL n).val (mD n) k = (mL1 n).val (mD0 n) k := fun k hk hkn => by
    rw [val_told, show (mL n).staged = [] from hc.2.2.2.2.1]
    exact hc.2.2.2.2.2.1 k (home_at hb hn hk hkn)
  exact ⟨hc.1, hc.2.1, hc.2.2.2.2.2.2, hc.2.2.1.trans hb, hc.2.2.2.1.trans hn, hc.2.2.2.2.1, (hv 0 (.inl rfl) (by omega)).trans v0, (hv _ (.inr (Nat.le_refl _)) (by omega)).trans v1, (hv _ (.inr (by omega)) (by omega)).trans v2⟩
end Go.Proofs.Ytmhgahkainmbkaa
namespace Go.Proofs.Ytmhgahkainmbkaa
open Go.RowKit
set_option linter.unusedVariables false
set_option linter.unusedSimpArgs false

def sizeN (n : Int) : Nat := 64 + (if n < 0 then -(n + 1) else n).toNat % 140
theorem sizeN_le (n : Int) : 64 ≤ sizeN n ∧ sizeN n ≤ 203 := by unfold sizeN; omega
theorem size_any (a : Int) (ha : -9223372036854775808 ≤ a ∧ a ≤ 9223372036854775807) (w : World) :
    Calls Try.prog 11 #[.int .i64 a] w fun e w' => e = .returned (.int .i64 (sizeN a : Int)) ∧ w = w' := by
  obtain ⟨ha1, ha2⟩ := ha
  by_cases hneg : a < 0
  · obtain ⟨q, hq⟩ : ∃ q : Nat, -(a + 1) = (q : Int) := ⟨(-(a + 1)).toNat, by omega⟩
    have hs : (sizeN a : Int) = 64 + (q : Int) % 140 := by unfold sizeN; rw [if_pos hneg, hq]; simp
    have hqm : q ≤ 9223372036854775807 := by omega
    rw [hs]
    have HQ := Lib.hid hq
    clear hs hq
    go_enter Try.func11, Try.ntmps11
    go_upto_region 3 with (fail)
    rw [HQ.out]
    go_wp2_with fail
    go_ret
    exact ⟨rfl, rfl⟩
  · obtain ⟨q, hq⟩ : ∃ q : Nat, a = (q : Int) := ⟨a.toNat, by omega⟩
    have hs : (sizeN a : Int) = 64 + (q : Int) % 140 := by unfold sizeN; rw [if_neg hneg, hq]; simp
    have hqm : q ≤ 9223372036854775807 := by omega
    rw [hs]
    subst hq
    clear hs
    go_enter Try.func11, Try.ntmps11
    go_wp2_with fail
    go_ret
    exact ⟨rfl, rfl⟩
theorem lay_cells {W : World} {g n : Nat} (h : Blk W g 24 (layCells n).toArray) : W.cell? ⟨g, 1, none⟩ = some (.int .i64 1) ∧ W.cell? ⟨g, 2, none⟩ = some (.int .i64 (logLen n : Int)) := ⟨h.cell 1, h.cell 2⟩
section
attribute [local go_sem ↓] load_layout_mark store_layout_mark alloc_layout_mark
attribute [local go_sem] alloc_layout store_layout
set_option maxRecDepth 100000 in
set_option maxHeartbeats 4000000 in
theorem amade_any {n : Nat} (h1 : 64 ≤ n) (h2 : n ≤ 1024) {w wi : World} (hb : Below w.heap.size w wi) :
    Calls Try.prog 12 #[.int .i64 (n : Int)] wi fun e w' => ∃ p go gs pd ps F, e = .returned (.tuple #[.pointer (some ⟨pd, 0, none⟩), .pointer (some ⟨p, 0, none⟩), .pointer (some ⟨ps, 0, none⟩)]) ∧ ARun w w' F p go gs pd ps n (mL n) (mD n) := by
  obtain ⟨f1, f2, f3, f4, f5, f6, f7, f8, f9⟩ := lay_facts h1 h2
  obtain ⟨hf0, hi0, ha0, _⟩ := new_facts (N := n) (b := 1) (k := logLen n) (by omega) (by omega) (by omega) h2
  obtain ⟨hff, hi1, ha1, hb1, hn1, _, _, _⟩ := format_facts h1 h2
  obtain ⟨hc0, hi2, ha2, hb2, hn2, _, hv0, _, _⟩ := made_all h1 h2
  have HB := Lib.hid hb
  have HF0 := Lib.hid (show formatR n (DiskM.fresh n) 1 (logLen n : Int) = (0, mD0 n) from Prod.ext hf0 rfl)
  have HI0 := Lib.hid (show LInv n (mL0 n) (mD0 n) from hi0)
  have HA0 := Lib.hid (show (mD0 n).armed = false from ha0)
  have HFF := Lib.hid (show aformatR n (mL0 n) = (0, mL1 n) from Prod.ext hff rfl)
  have HV0 := Lib.hid hv0
  have HLAY := Lib.hid (fun W : World => lay_any h1 h2 W)
  clear f1 f3 f4 f5 f6 f7 f8 f9 hf0 hi0 ha0 hff hi1 ha1 hb1 hn1 hc0 hi2 ha2 hb2 hn2 hv0 hb
  go_enter Try.func12, Try.ntmps12
  go_wp2_with fail
  refine (new_any n (by omega) h2 wi).mono ?_
  rintro e w1 ⟨pd, rfl, hb1, hd1⟩
  have HR1 := Lib.hid (show Run w w1 (fun k => wi.heap.size ≤ k ∧ k < w1.heap.size) pd n (DiskM.fresh n) from ⟨HB.out.trans (hb1.mono HB.out.size), hd1, fun k hk => Nat.le_trans HB.out.size hk.1⟩)
  clear hb1 hd1
  go_wp2_with fail
  refine (HLAY.out _).mono ?_
  rintro e w2 ⟨rfl, hb2⟩
  have hst := store_layout n w2
  obtain ⟨w3, hw3⟩ : ∃ w3, w3 = w2.alloc (.cells (layCells n).toArray 24) := ⟨_, rfl⟩
  have hY : Blk w3 w2.heap.size 24 (layCells n).toArray := by rw [hw3]; exact Blk.new _ _ _
  have hb3 : Below w1.heap.size w1 w3 := by rw [hw3]; exact hb2.alloc hb2.size _
  have hs2 := hb2.size
  obtain ⟨hy1, hy2⟩ := lay_cells hY
  rw [hw3] at hy1 hy2
  have HY := Lib.hid hY
  have HW3 := Lib.hid hw3
  have HR3 := Lib.hid (HR1.out.free hb3)
  have hyF : ¬ (wi.heap.size ≤ w2.heap.size ∧ w2.heap.size < w1.heap.size) := by omega
  have HYF := Lib.hid hyF
  clear hb2 hw3 hY hb3 hyF
  go_wp2_with fail
  rw [← HW3.out]
  have hfo := format_any HR3.out.disk 1 (logLen n : Int) (by omega) (by omega) (by simp [DiskM.fresh])
  rw [HF0.out] at hfo
  have HFO := Lib.hid hfo
  clear hfo hy1 hy2
  refine HFO.out.mono ?_
  rintro e w4 ⟨rfl, F4, hs4, hd4⟩
  have HR4 := Lib.hid (HR3.out.step hs4 hd4)
  have hY4 := HY.out.step hs4 HYF.out
  obtain ⟨hy1, hy2⟩ := lay_cells hY4
  clear hs4 hd4 hY4
  go_wp2_with fail
  refine (HR4.out.openL HI0.out).mono ?_
  rintro e w5 ⟨p, go, gs, rfl, hb5, hr5⟩
  have HL5 := Lib.hid (show LRun w w5 F4 p go gs pd n (mL0 n) (mD0 n) from ⟨GRun.of hr5 rfl, HI0.out, HA0.out, rfl, rfl, h1⟩)
  clear hb5 hr5 hy1 hy2
  go_wp2_with fail
  have hfm := aformat_any HL5.out
  rw [HFF.out] at hfm
  have HFM := Lib.hid hfm
  clear hfm
  refine HFM.out.mono ?_
  rintro e w6 ⟨rfl, hl6⟩
  have HL6 := Lib.hid hl6
  clear hl6
  go_wp2_with fail
  refine HL6.out.commitL.mono ?_
  rintro e w7 ⟨rfl, F7, _, hl7⟩
  have HL7 := Lib.hid (show LRun w w7 F7 p go gs pd n (mL n) (mD n) from hl7)
  clear hl7
  go_wp2_with fail
  refine (aopen_any HL7.out h1 h2).mono ?_
  rintro e w8 ⟨hb8, hok, _⟩
  obtain ⟨ps, rfl, hps, hsp⟩ := hok HV0.out
  have HA8 := Lib.hid (show ARun w w8 F7 p go gs pd ps n (mL n) (mD n) from ⟨HL7.out.free hb8, hsp, fun hf => by have := HL7.out.run.wal.both_lt _ hf; omega⟩)
  clear hb8 hok hps hsp
  go_wp2_with fail
  go_ret3
  exact ⟨p, go, gs, pd, ps, F7, rfl, HA8.out⟩
end
end Go.Proofs.Ytmhgahkainmbkaa
namespace Go.Proofs.Ytmhgahkainmbkaa
open Go.RowKit
set_option linter.unusedVariables false
set_option linter.unusedSimpArgs false

def zb1 : Int × Int × LogM := blockR 64 (mL 64) (mD 64)
def zb2 : Int × Int × LogM := blockR 64 zb1.2.2 (mD 64)
def zf3 : Int × LogM := freeR 64 zb2.2.2 (mD 64) 23
def zb4 : Int × Int × LogM := blockR 64 zf3.2 (mD 64)
def zi5 : Int × Int × LogM := inodeR 64 zb4.2.2 (mD 64)
def zg6 : Int × LogM := freeInodeR 64 zi5.2.2 (mD 64) 0
theorem z_facts : freeN ((mL 64).val (mD 64) (lMap 64)) (64 - lData 64) = 41 ∧ freeN ((mL 64).val (mD 64) (lNodes 64)) (lInodes 64) = 15 ∧ zb1.1 = 23 ∧ zb2.1 = 24 ∧ zf3.1 = 0 ∧ zb4.1 = 23 ∧ zi5.1 = 1 ∧ zg6.1 = 49 := by decide +kernel
set_option maxRecDepth 100000 in
set_option maxHeartbeats 4000000 in
theorem ashown_any (w : World) :
    Calls Try.prog 8 #[] w fun e w' => e = .returned (.bool true) ∧ Below w.heap.size w w' := by
  obtain ⟨q1, q2, q3, q4, q5, q6, q7, q8⟩ := z_facts
  have HQ := Lib.hid (And.intro q1 (And.intro q2 (And.intro q3 (And.intro q4 (And.intro q5 (And.intro q6 (And.intro q7 q8)))))))
  clear q1 q2 q3 q4 q5 q6 q7 q8
  go_enter Try.func8, Try.ntmps8
  go_wp2_with fail
  refine (amade_any (n := 64) (by decide) (by decide) (Below.refl _ w)).mono ?_
  rintro e w1 ⟨p, go, gs, pd, ps, F, rfl, hA⟩
  have HA1 := Lib.hid hA
  clear hA
  go_wp2_with fail
  refine (ablocks_any HA1.out).mono ?_
  rintro e w2 ⟨rfl, hb2⟩
  rw [HQ.out.1]
  have HA2 := Lib.hid (HA1.out.free hb2)
  clear hb2
  go_wp2_with fail
  refine (ainodes_any HA2.out).mono ?_
  rintro e w3 ⟨rfl, hb3⟩
  rw [HQ.out.2.1]
  have HA3 := Lib.hid (HA2.out.free hb3)
  clear hb3
  go_wp2_with fail
  refine (ablock_any HA3.out).mono ?_
  rintro e w4 ⟨rfl, hA⟩
  have HA4 := Lib.hid (show ARun w w4 F p go gs pd ps 64 zb1.2.2 (mD 64) from hA)
  rw [show (blockR 64 (mL 64) (mD 64)).1 = 23 from HQ.out.2.2.1]
  clear hA
  go_wp2_with fail
  refine (ablock_any HA4.out).mono ?_
  rintro e w5 ⟨rfl, hA⟩
  have HA5 := Lib.hid (show ARun w w5 F p go gs pd ps 64 zb2.2.2 (mD 64) from hA)
  rw [show (blockR 64 zb1.2.2 (mD 64)).1 = 24 from HQ.out.2.2.2.1]
  clear hA
  go_wp2_with fail
  refine (afreeBlock_any HA5.out 23 (by omega)).mono ?_
  rintro e w6 ⟨rfl, hA⟩
  have HA6 := Lib.hid (show ARun w w6 F p go gs pd ps 64 zf3.2 (mD 64) from hA)
  rw [show (freeR 64 zb2.2.2 (mD 64) 23).1 = 0 from HQ.out.2.2.2.2.1]
  clear hA
  go_wp2_with fail
  refine (ablock_any HA6.out).mono ?_
  rintro e w7 ⟨rfl, hA⟩
  have HA7 := Lib.hid (show ARun w w7 F p go gs pd ps 64 zb4.2.2 (mD 64) from hA)
  rw [show (blockR 64 zf3.2 (mD 64)).1 = 23 from HQ.out.2.2.2.2.2.1]
  clear hA
  go_wp2_with fail
  refine (ainode_any HA7.out).mono ?_
  rintro e w8 ⟨rfl, hA⟩
  have HA8 := Lib.hid (show ARun w w8 F p go gs pd ps 64 zi5.2.2 (mD 64) from hA)
  rw [show (inodeR 64 zb4.2.2 (mD 64)).1 = 1 from HQ.out.2.2.2.2.2.2.1]
  clear hA
  go_wp2_with fail
  refine (afreeInode_any HA8.out 0 (by omega)).mono ?_
  rintro e w9 ⟨rfl, hA⟩
  rw [show (freeInodeR 64 zi5.2.2 (mD 64) 0).1 = 49 from HQ.out.2.2.2.2.2.2.2]
  have HB9 := Lib.hid hA.log.run.below
  clear hA
  go_wp2_with fail
  go_ret
  exact ⟨rfl, HB9.out⟩
end Go.Proofs.Ytmhgahkainmbkaa
