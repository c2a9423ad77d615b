/- A new log on a new disk, wherever it lies; a log opened on a disk at rest. -/
import Derived.Test.YtmhgahkainmbkaaWalRun
namespace Go.Proofs.Ytmhgahkainmbkaa
open Go.RowKit
set_option linter.unusedVariables false
set_option linter.unusedSimpArgs false

def newL (b k : Nat) : LogM := { base := b, n := k, epoch := 1, used := 0, sum := begin64.toNat, over := [], staged := [], dead := false }
def newD (N b k : Nat) : DiskM := (formatR N (DiskM.fresh N) (b : Int) (k : Int)).2
theorem new_facts {N b k : Nat} (h4 : 4 ≤ k) (h255 : k ≤ 255) (hkN : b + k ≤ N) (hN : N ≤ 1024) : (formatR N (DiskM.fresh N) (b : Int) (k : Int)).1 = 0 ∧ LInv N (newL b k) (newD N b k) ∧ (newD N b k).armed = false ∧ (newD N b k).now = (DiskM.fresh N).now.set b ctl0 := by
  have hok := fresh_ok (N := N) (by omega) (by omega)
  have hm : mayB N (b : Int) (k : Int) = true := by unfold mayB; rw [decide_eq_true_eq]; omega
  have hr : Rest N (DiskM.fresh N) := ⟨hok, rfl, rfl, rfl⟩
  have hg : DG N (fun _ => True) (DiskM.fresh N) := hr.dg trivial
  have hf : (formatR N (DiskM.fresh N) (b : Int) (k : Int)) = (((DiskM.fresh N).write N (b : Int) ctl0).flushE, ((DiskM.fresh N).write N (b : Int) ctl0).flush) ∧ ((DiskM.fresh N).write N (b : Int) ctl0).flushE = 0 ∧ Rest N ((DiskM.fresh N).write N (b : Int) ctl0).flush ∧
      ((DiskM.fresh N).write N (b : Int) ctl0).flush.now = (DiskM.fresh N).now.set b ctl0 ∧ ((DiskM.fresh N).write N (b : Int) ctl0).flush.armed = false := by
    rcases hg.write (i := b) (x := ctl0) (by omega) (ctl_length _ _ _) (fun _ _ => trivial) with ⟨e1, hg1, hn1, ha1⟩ | ⟨_, ha, _⟩
    · rcases hg1.flush with ⟨e2, hr2, hn2, ha2⟩ | ⟨_, ha, _⟩
      · refine ⟨?_, e2, hr2, hn2.trans hn1, ha2.trans ha1⟩
        unfold formatR
        rw [if_neg (by simp [hm]), if_neg (by simp [e1])]
      · rw [ha1] at ha; cases ha
    · cases ha
  obtain ⟨e, e0, hr2, hn2, ha2⟩ := hf
  have hD : newD N b k = ((DiskM.fresh N).write N (b : Int) ctl0).flush := by unfold newD; rw [e]
  rw [e, hD]
  have hlen : (DiskM.fresh N).now.length = N := hok.nowLen
  refine ⟨e0, ⟨⟨hok.most, h4, h255, hkN, by simp [newL], by simp only [newL]; omega, UInt64.toNat_lt _⟩, rfl, hr2, ⟨?_, ?_, ?_, rfl⟩, List.Pairwise.nil, List.Pairwise.nil, (fun x hx => by cases hx), (fun x hx => by cases hx), by simp only [newL, costN, List.length_nil]; omega⟩, ha2, hn2⟩
  · rw [hn2, List.length_set, hlen]
  · rw [hn2]
    show ((DiskM.fresh N).now.set b ctl0).getD b [] = _
    rw [getD_set_eq (by omega)]
    rfl
  · simp [roomS, updAll, newL]
theorem fresh_now {N k : Nat} (hk : k < N) : (DiskM.fresh N).now.getD k [] = zsec := by
  show (List.replicate N (List.replicate 128 0)).getD k [] = _
  rw [List.getD_eq_getElem?_getD, List.getElem?_replicate, if_pos hk]
  rfl
/-- A log that is opened. -/
theorem Run.openL {w wi : World} {pd N : Nat} {F : Nat → Prop} {D : DiskM} {L : LogM} (r : Run w wi F pd N D) (h : LInv N L D) :
    Calls Try.prog 28 #[.pointer (some ⟨pd, 0, none⟩), .int .i64 (L.base : Int), .int .i64 (L.n : Int)] wi fun e w' => ∃ p go gs, e = .returned (.tuple #[.pointer (some ⟨p, 0, none⟩), .int .i64 0]) ∧ Below wi.heap.size wi w' ∧ WRun w w' F p go gs pd N { L with staged := [] } D := by
  have hok := h.ok
  have hn4 := hok.n4
  have hn255 := hok.n255
  have hfits := hok.fits
  have hop := open_any r.disk L.base L.n (by unfold mayB; rw [decide_eq_true_eq]; omega)
  rw [open_coded h.coded hok h.rest.up] at hop
  refine hop.mono ?_
  rintro e w3 ⟨hb3, _, hl3⟩
  obtain ⟨p, go, gs, rfl, hlog, hft⟩ := hl3 _ rfl
  have hL : ({ L with staged := [], dead := false } : LogM) = { L with staged := [] } := by rw [← h.alive]
  rw [hL] at hlog
  refine ⟨p, go, gs, rfl, hb3, r.below.trans (hb3.mono r.below.size), ⟨hlog, r.disk.free hb3, fun k hk hf => ?_⟩, fun k hk => ?_⟩
  · have h1 := hft k hk
    have h2 := r.disk.1 k hf
    omega
  · rcases hk with hk | hk
    · exact r.foot k hk
    · have h1 := hft k hk
      have h2 := r.below.size
      omega
end Go.Proofs.Ytmhgahkainmbkaa
