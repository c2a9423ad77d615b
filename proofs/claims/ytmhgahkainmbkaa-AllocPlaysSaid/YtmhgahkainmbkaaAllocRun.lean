/- A space of a call's own: its memory, and what Read and Stage of its log do. -/
import Derived.Test.YtmhgahkainmbkaaAllocM
import Derived.Test.YtmhgahkainmbkaaAllocA
namespace Go.Proofs.Ytmhgahkainmbkaa
open Go.RowKit
set_option linter.unusedVariables false
set_option linter.unusedSimpArgs false

/-- What a call began with: a world, and the blocks of it that may change. -/
structure Ground where
  world : World
  may : Nat → Prop
/-- A world of which no block may change. -/
def Ground.of (w : World) : Ground := ⟨w, fun _ => False⟩
instance : Coe World Ground := ⟨Ground.of⟩
/-- A log and its disk, in memory that is the ground's but for what may change and for what is new. -/
structure GRun (w : Ground) (wi : World) (F : Nat → Prop) (p go gs pd N : Nat) (L : LogM) (D : DiskM) : Prop where
  kept : Step w.world wi w.may (Both F p go gs)
  wal : Wal wi F p go gs pd N L D
/-- A log whose region is a layout's, on a disk of n sectors at rest. -/
structure LRun (w : Ground) (wi : World) (F : Nat → Prop) (p go gs pd n : Nat) (L : LogM) (D : DiskM) : Prop where
  run : GRun w wi F p go gs pd n L D
  inv : LInv n L D
  armed : D.armed = false
  base : L.base = 1
  size : L.n = logLen n
  n64 : 64 ≤ n
/-- And a space over it. -/
structure ARun (w : Ground) (wi : World) (F : Nat → Prop) (p go gs pd ps n : Nat) (L : LogM) (D : DiskM) : Prop where
  log : LRun w wi F p go gs pd n L D
  space : SpaceAt wi ps p n
  far : ¬ Both F p go gs ps
section
variable {w : Ground} {wi wj : World} {p go gs pd ps n : Nat} {L L' : LogM} {F Fj : Nat → Prop} {D D' : DiskM}
theorem GRun.ws (r : GRun w wi F p go gs pd n L D) (s : WS wi F wj Fj p go gs pd n L' D') : GRun w wj Fj p go gs pd n L' D' := ⟨r.kept.trans s.step, s.wal⟩
theorem GRun.free (r : GRun w wi F p go gs pd n L D) (hb : Below wi.heap.size wi wj) : GRun w wj F p go gs pd n L D := r.ws (r.wal.start.free hb)
theorem GRun.drew (r : GRun w wi F p go gs pd n L D) : GRun w wi.drew F p go gs pd n L D := r.free (Below.refl wi.heap.size wi).drew
theorem GRun.lstep (r : GRun w wi F p go gs pd n L D) (s : Step wi wj (Foot p go gs) (Foot p go gs)) (l : LogAt wj p go gs pd n L') : GRun w wj F p go gs pd n L' D := r.ws (r.wal.start.logStep s l)
/-- A step that changes no block of the log and of its disk. -/
theorem GRun.other (r : GRun w wi F p go gs pd n L D) {K : Nat → Prop} (s : Step wi wj K K) (hK : ∀ k, K k → ¬ Both F p go gs k) (hm : ∀ k, K k → w.may k ∨ w.world.heap.size ≤ k) : GRun w wj F p go gs pd n L D := by
  have hl : LogAt wj p go gs pd n L := r.wal.log.step s (fun k hk hf => hK k hf (.inr hk))
  have hd : Disk wj F pd n D := r.wal.disk.step s (fun k hk hf => hK k hf (.inl hk))
  refine ⟨⟨s.os.trans r.kept.os, s.tape.trans r.kept.tape, s.output.trans r.kept.output, Nat.le_trans r.kept.size s.size, fun k hk hn => ?_, r.kept.next⟩, hl, hd, r.wal.sep⟩
  have h1 := r.kept.block k hk hn
  rw [s.block k (Nat.lt_of_lt_of_le hk r.kept.size) (fun h => by rcases hm k h with h2 | h2; exact hn h2; omega)]
  exact h1
theorem GRun.of (r : WRun w.world wi F p go gs pd n L D) (hm : w.may = fun _ => False) : GRun w wi F p go gs pd n L D := by
  refine ⟨?_, r.wal⟩
  have h := Step.of_below r.below w.may
  exact ⟨h.os, h.tape, h.output, h.size, h.block, fun k hk => .inr (r.foot k hk)⟩
theorem GRun.below {w wi : World} (r : GRun (Ground.of w) wi F p go gs pd n L D) : Below w.heap.size w wi := r.kept.below (Nat.le_refl _) (fun _ h => h.elim)
/-- From here on: what is there now is the ground. -/
theorem GRun.here (r : GRun w wi F p go gs pd n L D) : GRun ⟨wi, Both F p go gs⟩ wi F p go gs pd n L D := ⟨Step.refl _ _, r.wal⟩
theorem GRun.back (r : GRun w wi F p go gs pd n L D) (s : GRun ⟨wi, Both F p go gs⟩ wj Fj p go gs pd n L' D') : GRun w wj Fj p go gs pd n L' D' := ⟨r.kept.trans s.kept, s.wal⟩
theorem LRun.here (h : LRun w wi F p go gs pd n L D) : LRun ⟨wi, Both F p go gs⟩ wi F p go gs pd n L D := ⟨h.run.here, h.inv, h.armed, h.base, h.size, h.n64⟩
theorem LRun.back (h : LRun w wi F p go gs pd n L D) (s : LRun ⟨wi, Both F p go gs⟩ wj Fj p go gs pd n L' D') : LRun w wj Fj p go gs pd n L' D' := ⟨h.run.back s.run, s.inv, s.armed, s.base, s.size, s.n64⟩
theorem ARun.here (h : ARun w wi F p go gs pd ps n L D) : ARun ⟨wi, Both F p go gs⟩ wi F p go gs pd ps n L D := ⟨h.log.here, h.space, h.far⟩
theorem ARun.back (h : ARun w wi F p go gs pd ps n L D) (s : ARun ⟨wi, Both F p go gs⟩ wj Fj p go gs pd ps n L' D') : ARun w wj Fj p go gs pd ps n L' D' := ⟨h.log.back s.log, s.space, s.far⟩
theorem LRun.most (h : LRun w wi F p go gs pd n L D) : n ≤ 1024 := h.inv.ok.most
theorem LRun.free (h : LRun w wi F p go gs pd n L D) (hb : Below wi.heap.size wi wj) : LRun w wj F p go gs pd n L D := ⟨h.run.free hb, h.inv, h.armed, h.base, h.size, h.n64⟩
theorem LRun.drew (h : LRun w wi F p go gs pd n L D) : LRun w wi.drew F p go gs pd n L D := h.free (Below.refl _ wi).drew
theorem ARun.free (h : ARun w wi F p go gs pd ps n L D) (hb : Below wi.heap.size wi wj) : ARun w wj F p go gs pd ps n L D := ⟨h.log.free hb, h.space.below hb h.space.lt, h.far⟩
theorem ARun.drew (h : ARun w wi F p go gs pd ps n L D) : ARun w wi.drew F p go gs pd ps n L D := h.free (Below.refl _ wi).drew
theorem LRun.homeAt (h : LRun w wi F p go gs pd n L D) {k : Nat} (hk : k = 0 ∨ lMap n ≤ k) (hn : k < n) : homeB n L (k : Int) = true := by
  unfold homeB
  rw [decide_eq_true_eq, h.base, h.size]
  unfold lMap at hk
  omega
/-- Read of a home, in memory of its own. -/
theorem LRun.read (h : LRun w wi F p go gs pd n L D) {k : Nat} (hk : k = 0 ∨ lMap n ≤ k) (hn : k < n) :
    Calls Try.prog 13 #[.pointer (some ⟨p, 0, none⟩), .int .i64 (k : Int)] wi fun e w' => ∃ g cap cur, e = .returned (.tuple #[.slice (some ⟨g, 0, none⟩) 128 cap, .int .i64 0]) ∧ Below wi.heap.size wi w' ∧ wi.heap.size ≤ g ∧ Blk w' g 5 cur ∧ 128 ≤ cap ∧ cap ≤ maxLen ∧ cur.size = cap ∧ cur.toList.take 128 = (L.val D k).map bv := by
  refine (lread_own h.run.wal.log h.inv.alive h.run.wal.disk k (h.homeAt hk hn) h.inv.rest.up).mono ?_
  rintro e w' ⟨A, c, rfl, hb, ho⟩
  rcases ho.2 with ⟨h1, h2⟩ | ⟨g, cap, cur, h1, h2, h3, h4, h5, h6, h7⟩
  · injection h1 with _ h1 _; exact absurd h1 (by decide)
  · injection h1 with e1 e2 e3
    subst e1 e3
    exact ⟨g, c, cur, rfl, hb, h2, h3, h4, h5, by omega, by simpa using h7⟩
theorem LRun.val_length (h : LRun w wi F p go gs pd n L D) {k : Nat} (hk : k = 0 ∨ lMap n ≤ k) (hn : k < n) : (L.val D k).length = 128 := by
  have hh := h.homeAt hk hn
  unfold LogM.val
  cases hs : mget L.staged k with
  | some v => exact (h.inv.stagedOk _ ((mget_some h.inv.staged).1 hs)).2
  | none =>
    cases ho : mget L.over k with
    | some v => exact (h.inv.overOk _ ((mget_some h.inv.over).1 ho)).2
    | none => exact sector_len h.inv.rest.ok hn
theorem LRun.stage (h : LRun w wi F p go gs pd n L D) {k : Nat} (hk : k = 0 ∨ lMap n ≤ k) (hn : k < n) {z : Int} (hz : z = (k : Int)) {A : Option Addr} {c B : Nat} {l : List UInt8} (hl : l.length = 128) (hS : Slc wi B 1 A 128 c (l.map bv)) :
    Calls Try.prog 14 #[.pointer (some ⟨p, 0, none⟩), .int .i64 z, .slice A 128 c] wi fun e w' => e = .returned (.int .i64 (L.stageE n (k : Int) 128)) ∧ Step wi w' (Foot p go gs) (Foot p go gs) ∧ LRun w w' F p go gs pd n (L.stage n (k : Int) 128 l) D := by
  subst hz
  have hm := h.most
  refine (stage_any h.run.wal.log h.run.wal.disk (k : Int) (by omega) hS).mono ?_
  rintro e w' ⟨he, hlg, hs⟩
  have hi := h.inv.stageI (h.homeAt hk hn) hl
  exact ⟨he, hs, h.run.lstep hs hlg, hi.2.1, h.armed, hi.2.2.1.trans h.base, hi.2.2.2.1.trans h.size, h.n64⟩
theorem ARun.step (h : ARun w wi F p go gs pd ps n L D) (s : Step wi wj (Foot p go gs) (Foot p go gs)) (hl : LRun w wj F p go gs pd n L' D) : ARun w wj F p go gs pd ps n L' D :=
  ⟨hl, h.space.step s (fun hf => h.far (.inr hf)), h.far⟩
theorem ARun.stage (h : ARun w wi F p go gs pd ps n L D) {k : Nat} (hk : k = 0 ∨ lMap n ≤ k) (hn : k < n) {z : Int} (hz : z = (k : Int)) {A : Option Addr} {c B : Nat} {l : List UInt8} (hl : l.length = 128) (hS : Slc wi B 1 A 128 c (l.map bv)) :
    Calls Try.prog 14 #[.pointer (some ⟨p, 0, none⟩), .int .i64 z, .slice A 128 c] wi fun e w' => e = .returned (.int .i64 (L.stageE n (k : Int) 128)) ∧ ARun w w' F p go gs pd ps n (L.stage n (k : Int) 128 l) D :=
  (h.log.stage hk hn hz hl hS).mono fun e w' ⟨he, hs, hr⟩ => ⟨he, h.step hs hr⟩
theorem ARun.dropA (h : ARun w wi F p go gs pd ps n L D) :
    Calls Try.prog 16 #[.pointer (some ⟨p, 0, none⟩)] wi fun e w' => e = .returned (.tuple #[]) ∧ ARun w w' F p go gs pd ps n { L with staged := [] } D :=
  (drop_any h.log.run.wal.log).mono fun e w' ⟨he, hl, hs⟩ => ⟨he, h.step hs ⟨h.log.run.lstep hs hl, h.log.inv.dropI, h.log.armed, h.log.base, h.log.size, h.log.n64⟩⟩
theorem LRun.commitL (h : LRun w wi F p go gs pd n L D) :
    Calls Try.prog 18 #[.pointer (some ⟨p, 0, none⟩)] wi fun e w' => e = .returned (.int .i64 0) ∧ ∃ F', Step wi w' (Both F p go gs) (Both F' p go gs) ∧ LRun w w' F' p go gs pd n (commitR n L D).2.1 (commitR n L D).2.2 := by
  refine (commit_any h.run.wal h.inv.loose h.inv.cost).mono ?_
  rintro e w' ⟨he, F', hws⟩
  have hi := h.inv.commitI h.armed
  rw [hi.1] at he
  exact ⟨he, F', hws.step, h.run.ws hws, hi.2.1, hi.2.2.2.2.2.2, hi.2.2.1.trans h.base, hi.2.2.2.1.trans h.size, h.n64⟩
theorem ARun.commitA (h : ARun w wi F p go gs pd ps n L D) :
    Calls Try.prog 18 #[.pointer (some ⟨p, 0, none⟩)] wi fun e w' => e = .returned (.int .i64 0) ∧ ∃ F', ARun w w' F' p go gs pd ps n (commitR n L D).2.1 (commitR n L D).2.2 :=
  h.log.commitL.mono fun e w' ⟨he, F', hs, hr⟩ => ⟨he, F', hr, h.space.step hs h.far, fun hb => by
    rcases hs.next _ hb with h1 | h1
    · exact h.far h1
    · have := h.space.lt; omega⟩
end
end Go.Proofs.Ytmhgahkainmbkaa
