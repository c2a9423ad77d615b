/- The walks of disk.New, Clone and of the law's small helper full. -/
import Derived.Test.YtmhgahkainmbkaaDisk5
namespace Go.Proofs.Ytmhgahkainmbkaa
open Go.RowKit
set_option linter.unusedVariables false
set_option linter.unusedSimpArgs false

def DiskM.fresh (N : Nat) : DiskM := { safe := List.replicate N (List.replicate 128 0), now := List.replicate N (List.replicate 128 0), loose := [], up := true, deeds := 0, armed := false, after := 0, keep := 0 }
theorem fresh_ok {N : Nat} (h1 : 1 ≤ N) (h2 : N ≤ 1024) : (DiskM.fresh N).Ok N := by
  have hs : Sectors (List.replicate N (List.replicate 128 0)) := fun s hs => by
    obtain ⟨_, rfl⟩ := List.mem_replicate.1 hs; simp
  exact ⟨h1, h2, by simp [DiskM.fresh], by simp [DiskM.fresh], hs, hs, fun x hx => by cases hx⟩

theorem flat_zero (N : Nat) : flat (List.replicate N (List.replicate 128 0)) = List.replicate (N * 128) (.int .u8 0) := by
  induction N with
  | zero => rfl
  | succ N ih =>
    rw [List.replicate_succ, show flat (List.replicate 128 0 :: List.replicate N (List.replicate 128 0)) = (List.replicate 128 0).map bv ++ flat (List.replicate N (List.replicate 128 0)) from rfl, ih, Nat.succ_mul, Nat.add_comm, ← List.replicate_append_replicate]
    congr 1
def zsecs (N : Nat) : Array Value := (List.replicate (N * 128) (.int .u8 0)).toArray
theorem zsecs_flat (N : Nat) : (zsecs N).toList = flat (List.replicate N (List.replicate 128 0)) := by rw [flat_zero]; rfl

theorem zbytes_at (n k : Nat) (h : k < (zbytes n).size) : (zbytes n)[k] = .int .u8 0 := by
  unfold zbytes at h ⊢
  simp only [List.getElem_toArray, List.getElem_replicate]
theorem make_secs_mark (n c : Value) : Instr.makeSlice 109 n c = MakeS 109 n c := rfl
theorem sector_info : (Try.prog.info? 113).map (fun i => (i.zero, i.size, i.bytes)) = some (some (.agg (zbytes 128)), 128, 128) := by kernel_rfl
theorem make_secs (N : Nat) (hN : N ≤ 1024) (W : World) : Sem.run Try.prog (MakeS 109 (.int .i64 (N : Int)) (.int .i64 (N : Int))) W = .ok (.slice (some ⟨W.heap.size, 0, none⟩) N N) (W.alloc (.cells (zsecs N) 113)) := by
  obtain ⟨i, hi, hz, hs, hb⟩ := info_parts sector_info
  have := run_make (P := Try.prog) W 109 113 i _ Try.underlying109 hi hz .i64 .i64 (N : Int) (N : Int) (by omega) (by omega) (by rw [hb]; omega) (by omega)
  rw [Int.toNat_natCast, hs] at this
  have hc : madeCells (Value.agg (zbytes 128)).cells (N * 128) = zsecs N := by
    rw [show (Value.agg (zbytes 128)).cells = zbytes 128 from rfl]
    have hz : ∀ k, (zbytes 128)[k % (zbytes 128).size]! = .int .u8 0 := fun k => by
      have hk : k % (zbytes 128).size < (zbytes 128).size := Nat.mod_lt _ (by rw [zbytes_size]; decide)
      rw [getElem!_pos (zbytes 128) _ hk]
      exact zbytes_at _ _ _
    unfold madeCells zsecs
    simp only [hz]
    apply Array.ext'
    rw [Array.toList_map, List.map_const', Array.length_toList, Array.size_range]
  rw [hc] at this
  exact this

theorem build_disk_mark (parts : Array (Nat × Value)) : Instr.build 112 parts = BuildS 112 parts := rfl
theorem build_disk (a b : Option Addr) (n m c d : Nat) (W : World) : Sem.run Try.prog (BuildS 112 #[(0, .slice a n c), (1, .slice b m d), (3, .bool true)]) W = .ok (.agg #[.slice a n c, .slice b m d, .slice none 0 0, .bool true, .int .i64 0, .bool false, .int .i64 0, .int .u64 0]) W := by kernel_rfl

section
attribute [local go_sem ↓] make_secs_mark build_disk_mark
attribute [local go_sem] build_disk

theorem newNil_any (n : Int) (hn : n < 1 ∨ 1024 < n) (w : World) :
    Calls Try.prog 33 #[.int .i64 n] w fun e w' => e = .returned (.pointer none) ∧ w = w' := by
  rcases hn with hn | hn
  · go_enter Try.func33, Try.ntmps33
    go_wp2
    go_ret
    exact ⟨rfl, rfl⟩
  · go_enter Try.func33, Try.ntmps33
    go_wp2
    go_ret
    exact ⟨rfl, rfl⟩

theorem fresh_at (w w' : World) (N s1 s2 p : Nat) (h1 : 1 ≤ N) (h2 : N ≤ 1024) (hs1 : w.heap.size ≤ s1) (hs2 : w.heap.size ≤ s2) (hp : w.heap.size ≤ p) (hne : s1 ≠ s2)
    (b1 : Blk w' s1 113 (zsecs N)) (b2 : Blk w' s2 113 (zsecs N))
    (bp : Blk w' p 112 #[.slice (some ⟨s1, 0, none⟩) N N, .slice (some ⟨s2, 0, none⟩) N N, .slice none 0 0, .bool true, .int .i64 0, .bool false, .int .i64 0, .int .u64 0]) :
    Disk w' (fun k => w.heap.size ≤ k ∧ k < w'.heap.size) p N (DiskM.fresh N) := by
  have row : ∀ s, w.heap.size ≤ s → Blk w' s 113 (zsecs N) → Row w' (fun k => w.heap.size ≤ k ∧ k < w'.heap.size) 113 128 (.slice (some ⟨s, 0, none⟩) N N) N (flat (List.replicate N (List.replicate 128 0))) := fun s hs hb => by
    refine ⟨⟨by rw [flat_zero]; simp, .inr ⟨s, N, zsecs N, rfl, Nat.zero_le _, hb, Nat.le_refl _, by unfold maxLen; omega, by simp [zsecs], ?_⟩⟩, fun k hk => ?_⟩
    · rw [List.take_of_length_le (by simp [zsecs]), zsecs_flat]
    · injection hk with hk; simp only at hk; subst hk; exact ⟨hs, hb.lt⟩
  exact ⟨fun k hk => hk.2, _, _, _, fresh_ok h1 h2, ⟨hp, bp.lt⟩, bp, row s1 hs1 b1, row s2 hs2 b2, Row.nil_ _ _ _ _, by
    intro e; injection e with e; exact hne e⟩

theorem blk_at {w : World} {t : TypeId} {cs : Array Value} {g : Nat} (h : g = w.heap.size) : Blk (w.alloc (.cells cs t)) g t cs := by subst h; exact Blk.new w t cs

set_option maxRecDepth 100000 in
theorem new_any (N : Nat) (h1 : 1 ≤ N) (h2 : N ≤ 1024) (w : World) :
    Calls Try.prog 33 #[.int .i64 (N : Int)] w fun e w' => ∃ p, e = .returned (.pointer (some ⟨p, 0, none⟩)) ∧ Below w.heap.size w w' ∧ Disk w' (fun k => w.heap.size ≤ k ∧ k < w'.heap.size) p N (DiskM.fresh N) := by
  have hmk := make_secs N h2
  go_enter Try.func33, Try.ntmps33
  go_wp2_with fail
  go_region
  all_goals
    go_wp2_with fail
    go_ret
    refine ⟨_, rfl, (((((Below.refl _ w).alloc (Nat.le_refl _) _).alloc (by simp) _).alloc (by simp; omega) _).drew), ?_⟩
  · refine fresh_at w _ N w.heap.size (w.heap.size + 1) (w.heap.size + 1 + 1) h1 h2 (Nat.le_refl _) (by omega) (by omega) (by omega) ?_ ?_ ?_
    · exact ((((Blk.new w _ _).alloc _)).alloc _).drew
    · refine ((blk_at ?_).alloc _).drew
      simp
    · refine (blk_at ?_).drew
      simp
  · refine fresh_at w _ N (w.heap.size + 1) w.heap.size (w.heap.size + 1 + 1) h1 h2 (by omega) (Nat.le_refl _) (by omega) (by omega) ?_ ?_ ?_
    · refine ((blk_at ?_).alloc _).drew
      simp
    · exact ((((Blk.new w _ _).alloc _)).alloc _).drew
    · refine (blk_at ?_).drew
      simp
end
end Go.Proofs.Ytmhgahkainmbkaa
