/- A log and its disk together; the walk of mark. -/
import Derived.Test.YtmhgahkainmbkaaWalStage
namespace Go.Proofs.Ytmhgahkainmbkaa
open Go.RowKit
set_option linter.unusedVariables false
set_option linter.unusedSimpArgs false

/-- A log on its disk. -/
structure Wal (w : World) (F : Nat → Prop) (p go gs pd N : Nat) (L : LogM) (D : DiskM) : Prop where
  log : LogAt w p go gs pd N L
  disk : Disk w F pd N D
  sep : ∀ k, Foot p go gs k → ¬ F k
def Both (F : Nat → Prop) (p go gs : Nat) : Nat → Prop := fun k => F k ∨ Foot p go gs k
/-- From w to wi only the log's and the disk's own memory has turned. -/
structure WS (w : World) (F : Nat → Prop) (wi : World) (Fi : Nat → Prop) (p go gs pd N : Nat) (L : LogM) (D : DiskM) : Prop where
  step : Step w wi (Both F p go gs) (Both Fi p go gs)
  wal : Wal wi Fi p go gs pd N L D
section
variable {w wi wj : World} {p go gs pd N : Nat} {L L' : LogM} {F Fi Fj : Nat → Prop} {D D' : DiskM}
theorem Wal.free (h : Wal wi F p go gs pd N L D) (hb : Below wi.heap.size wi wj) : Wal wj F p go gs pd N L D := ⟨h.log.free hb, h.disk.free hb, h.sep⟩
theorem Wal.start (h : Wal w F p go gs pd N L D) : WS w F w F p go gs pd N L D := ⟨Step.refl _ _, h⟩
theorem WS.free (h : WS w F wi Fi p go gs pd N L D) (hb : Below wi.heap.size wi wj) : WS w F wj Fi p go gs pd N L D :=
  ⟨h.step.trans (Step.of_below hb _), h.wal.free hb⟩
theorem WS.drew (h : WS w F wi Fi p go gs pd N L D) : WS w F wi.drew Fi p go gs pd N L D := h.free (Below.refl _ wi).drew
theorem WS.drewN (h : WS w F wi Fi p go gs pd N L D) (n : Nat) : WS w F (wi.drewN n) Fi p go gs pd N L D := h.free (below_drewN _ wi n)
theorem WS.alloc (h : WS w F wi Fi p go gs pd N L D) (o : Obj) : WS w F (wi.alloc o) Fi p go gs pd N L D := h.free ((Below.refl _ wi).alloc (Nat.le_refl _) o)
theorem WS.diskStep (h : WS w F wi Fi p go gs pd N L D) (s : Step wi wj Fi Fj) (d : Disk wj Fj pd N D') : WS w F wj Fj p go gs pd N L D' := by
  have hlt := h.wal.log.lt
  refine ⟨h.step.trans ⟨s.os, s.tape, s.output, s.size, fun k hk hn => s.block k hk (fun hf => hn (.inl hf)), fun k hk => ?_⟩, h.wal.log.step s h.wal.sep, d, fun k hk hf => ?_⟩
  · rcases hk with hk | hk
    · rcases s.next k hk with h1 | h1
      · exact .inl (.inl h1)
      · exact .inr h1
    · exact .inl (.inr hk)
  · rcases s.next k hf with h1 | h1
    · exact h.wal.sep k hk h1
    · have := hlt k hk; omega
theorem WS.logStep (h : WS w F wi Fi p go gs pd N L D) (s : Step wi wj (Foot p go gs) (Foot p go gs)) (l : LogAt wj p go gs pd N L') : WS w F wj Fi p go gs pd N L' D :=
  ⟨h.step.trans ⟨s.os, s.tape, s.output, s.size, fun k hk hn => s.block k hk (fun hf => hn (.inr hf)), fun k hk => .inl hk⟩, l, h.wal.disk.step s (fun k hk hf => h.wal.sep k hf hk), h.wal.sep⟩
theorem WS.trans (h : WS w F wi Fi p go gs pd N L D) (k : WS wi Fi wj Fj p go gs pd N L' D') : WS w F wj Fj p go gs pd N L' D' := ⟨h.step.trans k.step, k.wal⟩

/-- What the log is behind an error of the disk's. -/
def LogM.ends (L : LogM) (e : Int) : LogM := { L with dead := L.dead || e == 41 || e == 40 }
theorem WS.flush (h : WS w F wi Fi p go gs pd N L D) :
    Calls Try.prog 68 #[.pointer (some ⟨pd, 0, none⟩)] wi fun e w' => e = .returned (.int .i64 D.flushE) ∧ WS w F w' Fi p go gs pd N L D.flush :=
  (flush_any h.wal.disk).mono fun _ _ ⟨he, hs, hd⟩ => ⟨he, h.diskStep hs hd⟩
theorem WS.write (h : WS w F wi Fi p go gs pd N L D) (i : Int) {A : Option Addr} {n c B : Nat} {l : List UInt8} (hS : Slc wi B 1 A n c (l.map bv)) (hsep : ∀ a, A = some a → ¬ Fi a.block) (hroom : D.loose.length ≤ 1000000) :
    Calls Try.prog 47 #[.pointer (some ⟨pd, 0, none⟩), .int .i64 i, .slice A n c] wi fun e w' => e = .returned (.int .i64 (D.writeE N i l)) ∧ ∃ Fj, WS w F w' Fj p go gs pd N L (D.write N i l) :=
  (write_any h.wal.disk i hS hsep hroom).mono fun _ _ ⟨he, Fj, hs, hd⟩ => ⟨he, Fj, h.diskStep hs hd⟩
theorem WS.ended (h : WS w F wi Fi p go gs pd N L D) (e : Int) :
    Calls Try.prog 38 #[.pointer (some ⟨p, 0, none⟩), .int .i64 e] wi fun e' w' => e' = .returned (.int .i64 e) ∧ WS w F w' Fi p go gs pd N (L.ends e) D :=
  (ended_any h.wal.log e).mono fun _ _ ⟨he, hl, hs⟩ => ⟨he, h.logStep hs hl⟩

/-- The head of a log is written anew. -/
theorem LogAt.reHead (h : LogAt w p go gs pd N L) (hk : ∀ k, k ≠ p → wi.heap[k]? = w.heap[k]?) (hL : L'.Ok N) (h1 : L'.over = L.over) (h2 : L'.staged = L.staged) (hb : L'.base = L.base) (hn : L'.n = L.n)
    (hB : Blk wi p 77 #[.pointer (some ⟨pd, 0, none⟩), .int .i64 (L'.base : Int), .int .i64 (L'.n : Int), .int .u64 (L'.epoch : Int), .int .i64 (L'.used : Int), .int .u64 (L'.sum : Int), .map (some go), .map (some gs), .bool L'.dead]) : LogAt wi p go gs pd N L' := by
  have hh : ∀ i, homeB N L' i = homeB N L i := fun i => by unfold homeB; rw [hb, hn]
  refine ⟨hL, hB, ?_, ?_, h.apart, ?_, ?_⟩
  · rw [h1]; exact h.over.kept (hk _ h.p_go)
  · rw [h2]; exact h.staged.kept (hk _ h.p_gs)
  · rw [h1]; exact fun x hx => by rw [hh]; exact h.overOk x hx
  · rw [h2]; exact fun x hx => by rw [hh]; exact h.stagedOk x hx
theorem LogAt.setMark (h : LogAt w p go gs pd N L) {e u t : Nat} (he : e < 18446744073709551616) (hu : u < L.n) (ht : t < 18446744073709551616) :
    LogAt (((w.setCell ⟨p, 3, none⟩ (.int .u64 (e : Int))).setCell ⟨p, 4, none⟩ (.int .i64 (u : Int))).setCell ⟨p, 5, none⟩ (.int .u64 (t : Int))) p go gs pd N { L with epoch := e, used := u, sum := t } := by
  refine h.reHead (fun k hk => ?_) ⟨h.ok.most, h.ok.n4, h.ok.n255, h.ok.fits, he, hu, ht⟩ rfl rfl rfl rfl (((h.head.set_ 3 _).set_ 4 _).set_ 5 _)
  rw [heap_set_far _ _ _ _ _ hk, heap_set_far _ _ _ _ _ hk, heap_set_far _ _ _ _ _ hk]
end

/-- mark: what it answers, and what log and disk are behind it. -/
def markR (N : Nat) (L : LogM) (D : DiskM) (e u t : Nat) : Int × LogM × DiskM :=
  if D.flushE ≠ 0 then (D.flushE, L.ends D.flushE, D.flush)
  else if D.flush.writeE N (L.base : Int) (ctl e u t) ≠ 0 then (D.flush.writeE N (L.base : Int) (ctl e u t), L.ends (D.flush.writeE N (L.base : Int) (ctl e u t)), D.flush.write N (L.base : Int) (ctl e u t))
  else if (D.flush.write N (L.base : Int) (ctl e u t)).flushE ≠ 0 then ((D.flush.write N (L.base : Int) (ctl e u t)).flushE, L.ends (D.flush.write N (L.base : Int) (ctl e u t)).flushE, (D.flush.write N (L.base : Int) (ctl e u t)).flush)
  else (0, { L with epoch := e, used := u, sum := t }, (D.flush.write N (L.base : Int) (ctl e u t)).flush)
theorem flush_loose {D : DiskM} (h : D.flushE = 0) : D.flush.loose = [] := by
  unfold DiskM.flushE at h
  unfold DiskM.flush
  split at h
  · omega
  · split at h
    · omega
    · rename_i h1 h2
      simp [h1, h2]

def Done3 (w : World) (F : Nat → Prop) (p go gs pd N : Nat) (r : Int × LogM × DiskM) (e : Ending) (w' : World) : Prop := e = .returned (.int .i64 r.1) ∧ ∃ F', WS w F w' F' p go gs pd N r.2.1 r.2.2
section
attribute [local go_sem ↓] load_wsector_mark store_wsector_mark alloc_wsector_mark
attribute [local go_sem] alloc_wsector
variable {w wi wj : World} {p go gs pd N : Nat} {L L' : LogM} {F Fi Fj : Nat → Prop} {D D' : DiskM}
set_option maxRecDepth 100000 in
set_option maxHeartbeats 2000000 in
theorem mark_any (h : WS w F wi Fi p go gs pd N L D) {e u t : Nat} (he : e < 18446744073709551616) (hu : u < L.n) (ht : t < 18446744073709551616) :
    Calls Try.prog 49 #[.pointer (some ⟨p, 0, none⟩), .int .u64 (e : Int), .int .i64 (u : Int), .int .u64 (t : Int)] wi (Done3 w F p go gs pd N (markR N L D e u t)) := by
  obtain ⟨c0, c1, c2, c3, c4, c5, c6, c7, c8, fz⟩ := log_cells h.wal.log.head
  have hu2 : u < 65536 := by have := h.wal.log.ok.n255; omega
  have H := Lib.hid h
  obtain ⟨E1, hE1⟩ : ∃ E, E = D.flushE := ⟨_, rfl⟩
  have HE1 := Lib.hid hE1
  have hfl := h.flush
  rw [← hE1] at hfl
  have HF := Lib.hid hfl
  clear h hE1 hfl
  by_cases h1 : E1 = 0
  · have hE1' : D.flushE = 0 := by rw [← HE1.out, h1]
    have HE1' := Lib.hid hE1'
    have hmk : markR N L D e u t = if D.flush.writeE N (L.base : Int) (ctl e u t) ≠ 0 then (D.flush.writeE N (L.base : Int) (ctl e u t), L.ends (D.flush.writeE N (L.base : Int) (ctl e u t)), D.flush.write N (L.base : Int) (ctl e u t))
  else if (D.flush.write N (L.base : Int) (ctl e u t)).flushE ≠ 0 then ((D.flush.write N (L.base : Int) (ctl e u t)).flushE, L.ends (D.flush.write N (L.base : Int) (ctl e u t)).flushE, (D.flush.write N (L.base : Int) (ctl e u t)).flush)
  else (0, { L with epoch := e, used := u, sum := t }, (D.flush.write N (L.base : Int) (ctl e u t)).flush) := by unfold markR; rw [if_neg (by simp [hE1'])]
    rw [hmk]
    subst h1
    clear hmk hE1'
    obtain ⟨D1, hD1⟩ : ∃ D1, D1 = D.flush := ⟨_, rfl⟩
    have hlo : D1.loose = [] := by rw [hD1]; exact flush_loose HE1'.out
    rw [← hD1]
    obtain ⟨f, hf⟩ : ∃ f, f = ctl e u t := ⟨_, rfl⟩
    rw [← hf]
    obtain ⟨E2, hE2⟩ : ∃ E, E = D1.writeE N (L.base : Int) f := ⟨_, rfl⟩
    obtain ⟨D2, hD2⟩ : ∃ D2, D2 = D1.write N (L.base : Int) f := ⟨_, rfl⟩
    rw [← hE2, ← hD2]
    obtain ⟨E3, hE3⟩ : ∃ E, E = D2.flushE := ⟨_, rfl⟩
    obtain ⟨D3, hD3⟩ : ∃ D, D = D2.flush := ⟨_, rfl⟩
    rw [← hE3, ← hD3]
    obtain ⟨R, hR⟩ : ∃ R, R = (if E2 ≠ 0 then (E2, L.ends E2, D2) else if E3 ≠ 0 then (E3, L.ends E3, D3) else (0, { L with epoch := e, used := u, sum := t }, D3)) := ⟨_, rfl⟩
    rw [← hR]
    have HD1 := Lib.hid hD1
    have HLO := Lib.hid hlo
    have HFF := Lib.hid hf
    have HE2 := Lib.hid hE2
    have HE3 := Lib.hid hE3
    have HD2 := Lib.hid hD2
    have HD3 := Lib.hid hD3
    have HR := Lib.hid hR
    clear hD1 hlo hf hE2 hD2 hE3 hD3 hR
    go_enter Try.func49, Try.ntmps49
    go_wp2_with fail
    refine HF.out.mono ?_
    rintro e' w1 ⟨rfl, h1⟩
    rw [← HD1.out] at h1
    obtain ⟨c0, c1, c2, c3, c4, c5, c6, c7, c8, fz⟩ := log_cells h1.wal.log.head
    have H1 := Lib.hid h1
    clear h1
    go_wp2_with fail
    refine (control_any e u t he hu2 ht w1).mono ?_
    rintro e' w2 ⟨rfl, hb2⟩
    have h2 := H1.out.free hb2
    obtain ⟨c0, c1, c2, c3, c4, c5, c6, c7, c8, fz⟩ := log_cells h2.wal.log.head
    have hca := cells_alloc h2.wal.log.head.lt
    have hfl : f.length = 128 := by rw [HFF.out]; exact ctl_length e u t
    rw [← HFF.out]
    have hst := StoreS.new (P := Try.prog) (ty := 80) (t := 80) (c := zbytes 128) (x := (f.map bv).toArray) (by simp only [List.size_toArray, List.length_map, hfl]; exact i_wsector) (by simp [zbytes_size, hfl]) (fun v hv => bvs_one f v (by simpa using hv)) w2
    obtain ⟨w3, hw3⟩ : ∃ w3, w3 = w2.alloc (.cells (f.map bv).toArray 80) := ⟨_, rfl⟩
    have h3 : WS w F w3 Fi p go gs pd N L D1 := by rw [hw3]; exact h2.alloc _
    have hB3 : Blk w3 w2.heap.size 80 (f.map bv).toArray := by rw [hw3]; exact Blk.new _ _ _
    have hS3 := hB3.slc (sz := 1) (n := 128) (c := 128) (by simp [hfl]) (Nat.le_refl _) (by decide)
    rw [Nat.mul_one, List.take_of_length_le (by simp [hfl])] at hS3
    have hsep : ∀ a : Addr, some (⟨w2.heap.size, 0, none⟩ : Addr) = some a → ¬ Fi a.block := fun a ha hf => by
      injection ha with ha; subst ha
      exact absurd (h2.wal.disk.1 _ hf) (Nat.lt_irrefl _)
    have hwr := fun W : World => fun hW : W = w3.drew => by
      subst hW
      exact h3.drew.write (L.base : Int) (hS3.drew) hsep (by rw [HLO.out]; decide)
    rw [hw3] at hwr
    have HWR := Lib.hid (hwr _ rfl)
    clear hw3 h3 hB3 hS3 hsep hwr h2 hb2 hfl
    go_wp2_with fail
    refine region_tail 9 (by kernel_rfl) (by kernel_rfl) ?_
    simp only [List.take_succ_cons, List.take_zero, List.drop_succ_cons, List.drop_zero]
    repeat still_step
    refine wpStill_nil ?_
    go_wp2_with fail
    have HWR2 := HWR.out
    rw [← HE2.out, ← HD2.out] at HWR2
    refine HWR2.mono ?_
    rintro e' w4 ⟨rfl, F4, h4⟩
    obtain ⟨c0, c1, c2, c3, c4, c5, c6, c7, c8, fz⟩ := log_cells h4.wal.log.head
    clear HWR2 HWR
    have H4 := Lib.hid h4
    clear h4
    by_cases h2 : E2 = 0
    · subst h2
      go_wp2_with fail
      refine H4.out.flush.mono ?_
      rintro e' w5 ⟨rfl, h5⟩
      obtain ⟨c0, c1, c2, c3, c4, c5, c6, c7, c8, fz⟩ := log_cells h5.wal.log.head
      rw [← HE3.out]
      rw [← HD3.out] at h5
      have H5 := Lib.hid h5
      clear h5
      by_cases h3 : E3 = 0
      · subst h3
        go_wp2_with fail
        go_ret
        rw [show R = (0, { L with epoch := e, used := u, sum := t }, D3) from by rw [HR.out, if_neg (by simp), if_neg (by simp)]]
        refine ⟨rfl, F4, H5.out.logStep ((((Step.refl _ _).setCell (p := ⟨p, 3, none⟩) (.inl (.inl rfl)) _).setCell (p := ⟨p, 4, none⟩) (.inl (.inl rfl)) _).setCell (p := ⟨p, 5, none⟩) (.inl (.inl rfl)) _) (H5.out.wal.log.setMark he hu ht)⟩
      · go_wp2_with fail
        refine (H5.out.ended E3).mono ?_
        rintro e' w6 ⟨rfl, h6⟩
        have H6 := Lib.hid h6
        clear h6
        go_wp2_with fail
        go_ret
        rw [show R = (E3, L.ends E3, D3) from by rw [HR.out, if_neg (by simp), if_pos h3]]
        exact ⟨rfl, _, H6.out⟩
    · go_wp2_with fail
      refine (H4.out.ended E2).mono ?_
      rintro e' w6 ⟨rfl, h6⟩
      have H6 := Lib.hid h6
      clear h6
      go_wp2_with fail
      go_ret
      rw [show R = (E2, L.ends E2, D2) from by rw [HR.out, if_pos h2]]
      exact ⟨rfl, _, H6.out⟩
  · have hmk : markR N L D e u t = (E1, L.ends E1, D.flush) := by unfold markR; rw [← HE1.out, if_pos h1]
    rw [hmk]
    clear hmk
    go_enter Try.func49, Try.ntmps49
    go_wp2_with fail
    refine HF.out.mono ?_
    rintro e' w1 ⟨rfl, h1⟩
    have H1 := Lib.hid h1
    clear h1
    go_wp2_with fail
    refine (H1.out.ended E1).mono ?_
    rintro e' w2 ⟨rfl, h2⟩
    have H2 := Lib.hid h2
    clear h2
    go_wp2_with fail
    go_ret
    exact ⟨rfl, _, H2.out⟩
end
end Go.Proofs.Ytmhgahkainmbkaa
