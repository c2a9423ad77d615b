/- The walk of homes. -/
import Derived.Test.YtjdlaocmifobnaaWalMade
namespace Go.Proofs.Ytjdlaocmifobnaa
open Go.RowKit
set_option linter.unusedVariables false
set_option linter.unusedSimpArgs false

/-- All homes, one behind the other. -/
def homesTo (n : Nat) (f : Nat → List UInt8) (j : Nat) : List UInt8 := (List.range j).flatMap fun i => f (n + i)
def homesB (n : Nat) (f : Nat → List UInt8) : List UInt8 := homesTo n f 24
theorem homesTo_succ (n : Nat) (f : Nat → List UInt8) (j : Nat) : homesTo n f (j + 1) = homesTo n f j ++ f (n + j) := by simp [homesTo, List.range_succ]
theorem homesB_congr {n : Nat} {f g : Nat → List UInt8} (h : ∀ i, i < 24 → f (n + i) = g (n + i)) : homesB n f = homesB n g := by
  unfold homesB homesTo
  rw [List.flatMap_def, List.flatMap_def]
  congr 1
  exact List.map_congr_left fun i hi => h i (List.mem_range.1 hi)
section
attribute [local go_sem ↓] appendS_mark
variable {w wi : World} {p go gs pd N : Nat} {L : LogM} {F : Nat → Prop} {D : DiskM}
theorem val_length (h : LogAt w p go gs pd N L) (hD : D.Ok N) {k : Nat} (hk : homeB N L (k : Int) = true) : (L.val D k).length = 128 := by
  have hkN := (home_far hk h.ok).1
  unfold LogM.val
  cases hs : mget L.staged k with
  | some v => exact (h.stagedOk _ ((mget_some h.staged.rising).1 hs)).2
  | none =>
    cases ho : mget L.over k with
    | some v => exact (h.overOk _ ((mget_some h.over.rising).1 ho)).2
    | none => exact sector_len hD hkN
theorem home_behind (hb : L.base = 0) (hN : N = L.n + 24) {i : Nat} (hi : i < 24) : homeB N L ((L.n + i : Nat) : Int) = true := by
  unfold homeB
  rw [decide_eq_true_eq, hb, hN]
  omega
set_option maxRecDepth 100000 in
set_option maxHeartbeats 1000000 in
theorem homes_any (h : Wal w F p go gs pd N L D) (hd : L.dead = false) (hu : D.up = true) (hb : L.base = 0) (hN : N = L.n + 24) :
    Calls Try.prog 12 #[.pointer (some ⟨p, 0, none⟩), .int .i64 (L.n : Int)] w fun e w' => e = .returned (.tuple #[.string ⟨(homesB L.n (L.val D)).toArray⟩, .bool true]) ∧ Below w.heap.size w w' := by
  have hn := h.log.ok.n255
  have hRead : ∀ (wr : World) (k : Nat), Below w.heap.size w wr → k < 24 → Calls Try.prog 22 #[.pointer (some ⟨p, 0, none⟩), .int .i64 ((L.n : Int) + (k : Int))] wr fun e w' => ∃ A c, e = .returned (.tuple #[.slice A 128 c, .int .i64 0]) ∧ Below wr.heap.size wr w' ∧ Slc w' w'.heap.size 1 A 128 c ((L.val D (L.n + k)).map bv) := fun wr k hb2 hk => by
    have hw := h.free hb2
    have := lread_ok hw.log hd hw.disk (L.n + k) (home_behind hb hN hk) hu
    rw [show ((L.n + k : Nat) : Int) = (L.n : Int) + (k : Int) by omega] at this
    exact this.mono fun e w' ⟨A, c, h1, h2, h3, _⟩ => ⟨A, c, h1, h2, h3⟩
  obtain ⟨f, hf⟩ : ∃ f, f = L.val D := ⟨_, rfl⟩
  obtain ⟨n, hne⟩ : ∃ n, n = L.n := ⟨_, rfl⟩
  rw [← hf, ← hne] at hRead
  rw [← hf, ← hne]
  rw [← hne] at hn
  have HREAD := Lib.hid hRead
  clear hRead h hd hu hb hN hf hne
  go_enter Try.func12, Try.ntmps12
  go_wp2_with fail
  go_loopw [6, 7] (fun v i wr => ∃ k : Nat, k ≤ 24 ∧ i = .int .i64 (k : Int) ∧ Below w.heap.size w wr ∧ wr.ownsRow w.heap.size 5 1 v (k * 128) ((homesTo n f k).map bv)) (fun _ i _ => 24 - (intOf i).toNat)
  case atStart => exact ⟨0, Nat.zero_le _, rfl, Below.refl _ _, by simpa [homesTo] using World.ownsRow_nil w w.heap.size 5 1⟩
  case round =>
    obtain ⟨k, hk, rfl, hb, hown⟩ := hrel
    obtain ⟨A, c, rfl, hsl, hsp⟩ := own_slc hown
    by_cases hlt : k < 24
    · have HOWN := Lib.hid hown
      have hw1 : IntKind.i64.wrap ((n : Int) + (k : Int)) = (n : Int) + (k : Int) := IntWalk.i64_in _ (by omega)
      clear hown hsl hsp
      go_wp2_with fail
      refine (HREAD.out wr k hb hlt).mono ?_
      rintro e w1 ⟨A1, c1, rfl, hb1, hsec⟩
      have hs := hb.size
      have hs1 := hb1.size
      have hown1 : w1.ownsRow w.heap.size 5 1 (.slice A (k * 128) c) (k * 128) ((homesTo n f k).map bv) := by
        refine HOWN.out.kept (w' := w1) (row := none) ⟨hb1.os, hb1.tape, hb1.output, hb1.size, fun j hj _ => hb1.block j hj⟩ ?_
        cases (Value.slice A (k * 128) c).ownBlock <;> simp
      obtain ⟨A2, c2, w2, hr2, hown2, hg2, hat2⟩ := append_bytes w1 w.heap.size _ _ _ hown1 _ _ 128 _ _ hsec (by omega) (by omega)
      have hr2' : (AppendS #[33, 33] 33 #[.slice A (k * 128) c, .slice A1 128 c1]).run Try.prog w1 = .ok (.slice A2 (k * 128 + 128) c2) w2 := hr2
      have hb2 : Below w.heap.size w w2 := (hb.trans (hb1.mono hs)).grown hg2 (by omega) (fun j hj => (hown1.lt j hj).1)
      have HOWN2 := Lib.hid hown2
      clear hr2 hown1 hown2 hg2 hat2 hsec
      go_wp2_with fail
      refine ⟨⟨k + 1, by omega, by go_num, hb2, ?_⟩, by simp [intOf]; omega⟩
      rw [homesTo_succ, show (k + 1) * 128 = k * 128 + 128 by omega]
      exact HOWN2.out
    · have HK := Lib.hid (show k = 24 by omega)
      have hcv := convert_bytes Try.underlying33 Try.underlying5 hsl 9 Try.underlying9
      clear hown hsl hsp
      go_wp2_with fail
      go_ret2
      refine ⟨?_, hb⟩
      rw [HK.out]
      rfl
end
end Go.Proofs.Ytjdlaocmifobnaa
