/- The walks of act and picture; raw operations opened. -/
import Derived.Test.YtmhgahkainmbkaaAllocE
namespace Go.Proofs.Ytmhgahkainmbkaa
open Go.RowKit Go.ChangeShapes Go.WideShapes
set_option linter.unusedVariables false
set_option linter.unusedSimpArgs false
variable {w wi wj : World} {p go gs pd ps n : Nat} {L L' : LogM} {F Fj : Nat → Prop} {D : DiskM}
theorem stage_over (L : LogM) (N : Nat) (i : Int) (k : Nat) (l : List UInt8) : (L.stage N i k l).over = L.over := by unfold LogM.stage; split <;> rfl
theorem turn_over (n : Nat) (L : LogM) (D : DiskM) (a q : Nat) : (turnR n L D a q).2.over = L.over := stage_over _ _ _ _ _
theorem least_over (n : Nat) (L : LogM) (D : DiskM) (a c : Nat) : (leastR n L D a c).2.2.over = L.over := by
  unfold leastR
  cases leastN (L.val D a) c with
  | none => rfl
  | some i => exact turn_over _ _ _ _ _
theorem block_over (n : Nat) (L : LogM) (D : DiskM) : (blockR n L D).2.2.over = L.over := by
  unfold blockR blockEnd
  split
  · exact least_over _ _ _ _ _
  · split
    · exact (stage_over _ _ _ _ _).trans (least_over _ _ _ _ _)
    · exact (stage_over _ _ _ _ _).trans (least_over _ _ _ _ _)
theorem inode_over (n : Nat) (L : LogM) (D : DiskM) : (inodeR n L D).2.2.over = L.over := by
  unfold inodeR inodeEnd
  split
  · exact least_over _ _ _ _ _
  · split
    · exact (stage_over _ _ _ _ _).trans (least_over _ _ _ _ _)
    · exact (stage_over _ _ _ _ _).trans (least_over _ _ _ _ _)
theorem free_over (n : Nat) (L : LogM) (D : DiskM) (i : Int) : (freeR n L D i).2.over = L.over := by
  unfold freeR
  split
  · rfl
  · exact turn_over _ _ _ _ _
theorem freeInode_over (n : Nat) (L : LogM) (D : DiskM) (i : Int) : (freeInodeR n L D i).2.over = L.over := by
  unfold freeInodeR
  split
  · rfl
  · exact turn_over _ _ _ _ _
theorem and3 (z : Int) : ∃ m : Nat, m < 4 ∧ bits BinOp.and IntKind.i64 z 3 = (m : Int) := by
  refine ⟨(BitVec.ofInt 64 z &&& BitVec.ofInt 64 3).toNat, ?_, ?_⟩
  · have : (BitVec.ofInt 64 z &&& BitVec.ofInt 64 3).toNat ≤ (BitVec.ofInt 64 3).toNat := by
      rw [BitVec.toNat_and]; exact Nat.and_le_right
    have e : (BitVec.ofInt 64 3).toNat = 3 := by decide
    omega
  · show IntKind.i64.wrap ((BitVec.ofInt 64 z &&& BitVec.ofInt 64 3).toNat : Int) = _
    have : (BitVec.ofInt 64 z &&& BitVec.ofInt 64 3).toNat ≤ (BitVec.ofInt 64 3).toNat := by
      rw [BitVec.toNat_and]; exact Nat.and_le_right
    have e : (BitVec.ofInt 64 3).toNat = 3 := by decide
    rw [IntKind.wrap_i64]
    generalize (BitVec.ofInt 64 z &&& BitVec.ofInt 64 3).toNat = m at *
    omega
set_option maxRecDepth 100000 in
set_option maxHeartbeats 2000000 in
theorem act_any (h : ARun w wi F p go gs pd ps n L D) (kd i : Int) (hi : -9223372036854775808 ≤ i ∧ i ≤ 9223372036854775807) :
    Calls Try.prog 17 #[.pointer (some ⟨ps, 0, none⟩), .agg #[.int .i64 kd, .int .i64 i]] wi fun e w' => e = .returned (.tuple #[]) ∧ ∃ L', ARun w w' F p go gs pd ps n L' D ∧ L'.over = L.over := by
  have h1 := h.free ((Below.refl wi.heap.size wi).alloc (Nat.le_refl _) (.cells #[.int .i64 kd, .int .i64 i] 49))
  obtain ⟨q, hq4, hq⟩ := and3 kd
  have hqc : q = 0 ∨ q = 1 ∨ q = 2 ∨ q = 3 := by omega
  have HB := Lib.hid (ablock_any h1)
  have HI := Lib.hid (ainode_any h1)
  have HF := Lib.hid (afreeBlock_any h1 i hi)
  have HG := Lib.hid (afreeInode_any h1 i hi)
  have H1 := Lib.hid h1
  clear h h1
  rcases hqc with rfl | rfl | rfl | rfl
  · rw [show ((0 : Nat) : Int) = 0 from rfl] at hq
    go_enter Try.func17, Try.ntmps17
    go_wp2_with fail
    refine HB.out.mono ?_
    rintro e w2 ⟨rfl, hA⟩
    have HA := Lib.hid hA
    clear hA
    go_wp2_with fail
    go_end0
    exact ⟨rfl, _, HA.out, block_over _ _ _⟩
  · rw [show ((1 : Nat) : Int) = 1 from rfl] at hq
    go_enter Try.func17, Try.ntmps17
    go_wp2_with fail
    refine HF.out.mono ?_
    rintro e w2 ⟨rfl, hA⟩
    have HA := Lib.hid hA
    clear hA
    go_wp2_with fail
    go_end0
    exact ⟨rfl, _, HA.out, free_over _ _ _ _⟩
  · rw [show ((2 : Nat) : Int) = 2 from rfl] at hq
    go_enter Try.func17, Try.ntmps17
    go_wp2_with fail
    refine HI.out.mono ?_
    rintro e w2 ⟨rfl, hA⟩
    have HA := Lib.hid hA
    clear hA
    go_wp2_with fail
    go_end0
    exact ⟨rfl, _, HA.out, inode_over _ _ _⟩
  · rw [show ((3 : Nat) : Int) = 3 from rfl] at hq
    go_enter Try.func17, Try.ntmps17
    go_wp2_with fail
    refine HG.out.mono ?_
    rintro e w2 ⟨rfl, hA⟩
    have HA := Lib.hid hA
    clear hA
    go_wp2_with fail
    go_end0
    exact ⟨rfl, _, HA.out, freeInode_over _ _ _ _⟩

/-- The picture of a space. -/
def picAt (a b : Bool) : List UInt8 := (if a then 98 else 46) :: if b then [105] else []
def picTo (f g : Int → Bool) (k : Nat) : List UInt8 := (List.range k).flatMap fun i : Nat => picAt (f (i : Int)) (g (i : Int))
theorem picTo_succ (f g : Int → Bool) (k : Nat) : picTo f g (k + 1) = picTo f g k ++ picAt (f (k : Int)) (g (k : Int)) := by simp [picTo, List.range_succ]
section
attribute [local go_sem ↓] appendS_mark
/-- One byte more. -/
theorem push_byte (wr : World) (base : Nat) (v : Value) (m : Nat) (l : List UInt8) (hown : wr.ownsRow base 5 1 v m (l.map bv)) (hbase : base ≤ wr.heap.size) (hm : m ≤ 100000) (c : UInt8) {z : Int} (hz : z = (c.toNat : Int)) :
    ∃ A' c' w', (AppendS #[39, 39] 39 #[v, .slice (some ⟨wr.heap.size, 0, none⟩) 1 1]).run Try.prog (wr.alloc (.cells #[.int .u8 z] 5)) = .ok (.slice A' (m + 1) c') w' ∧ w'.ownsRow base 5 1 (.slice A' (m + 1) c') (m + 1) ((l ++ [c]).map bv) ∧ Below base wr w' := by
  subst hz
  have hb1 : Below wr.heap.size wr (wr.alloc (.cells #[.int .u8 (c.toNat : Int)] 5)) := (Below.refl _ _).alloc (Nat.le_refl _) _
  have hown1 : (wr.alloc (.cells #[.int .u8 (c.toNat : Int)] 5)).ownsRow base 5 1 v m (l.map bv) := by
    refine hown.kept (row := none) ⟨hb1.os, hb1.tape, hb1.output, hb1.size, fun j hj _ => hb1.block j hj⟩ ?_
    cases v.ownBlock <;> simp
  have hB := Blk.new wr 5 #[.int .u8 (c.toNat : Int)]
  have hS := hB.slc (sz := 1) (n := 1) (c := 1) (by simp) (Nat.le_refl _) (by decide)
  obtain ⟨A2, c2, w2, hr2, hown2, hg2, _⟩ := append_bytes _ base v m l hown1 _ _ 1 1 [c] (by simpa [bv] using hS) (by omega) (Nat.le_trans hbase hb1.size)
  exact ⟨A2, c2, w2, hr2, hown2, (hb1.mono hbase).grown hg2 (Nat.le_trans hbase hb1.size) (fun j hj => (hown1.lt j hj).1)⟩
set_option maxRecDepth 100000 in
set_option maxHeartbeats 2000000 in
theorem picture_any (h : ARun w wi F p go gs pd ps n L D) :
    Calls Try.prog 19 #[.pointer (some ⟨ps, 0, none⟩), .int .i64 (n : Int)] wi fun e w' => e = .returned (.string ⟨(picTo (hasBlock n L D) (hasInode n L D) n).toArray⟩) ∧ Below wi.heap.size wi w' := by
  have hm := h.log.most
  have HHB := Lib.hid (fun (W : World) (hb : Below wi.heap.size wi W) (k : Nat) (hk : k ≤ 2000) => ahasBlock_any (h.free hb) (k : Int) (by omega))
  have HHI := Lib.hid (fun (W : World) (hb : Below wi.heap.size wi W) (k : Nat) (hk : k ≤ 2000) => ahasInode_any (h.free hb) (k : Int) (by omega))
  obtain ⟨f, hf⟩ : ∃ f, f = hasBlock n L D := ⟨_, rfl⟩
  obtain ⟨g, hg⟩ : ∃ g, g = hasInode n L D := ⟨_, rfl⟩
  rw [← hf] at HHB ⊢
  rw [← hg] at HHI ⊢
  clear h hf hg
  go_enter Try.func19, Try.ntmps19
  go_wp2_with fail
  go_loopw [5, 6] (fun v i wr => ∃ (k m : Nat), k ≤ n ∧ i = .int .i64 (k : Int) ∧ Below wi.heap.size wi wr ∧ m ≤ 2 * k ∧ wr.ownsRow wi.heap.size 5 1 v m ((picTo f g k).map bv)) (fun _ i _ => n - (intOf i).toNat)
  case atStart => exact ⟨0, 0, Nat.zero_le _, rfl, Below.refl _ _, Nat.le_refl _, by simpa [picTo] using World.ownsRow_nil wi wi.heap.size 5 1⟩
  case round =>
    obtain ⟨k, m, hk, rfl, hb, hmk, hown⟩ := hrel
    obtain ⟨A, c, rfl, hsl, _⟩ := own_slc hown
    by_cases hlt : k < n
    · have HOWN := Lib.hid hown
      have HMK := Lib.hid hmk
      obtain ⟨a, ha⟩ : ∃ a, a = f (k : Int) := ⟨_, rfl⟩
      obtain ⟨b, hbb⟩ : ∃ b, b = g (k : Int) := ⟨_, rfl⟩
      have h1 := HHB.out wr hb k (by omega)
      rw [← ha] at h1
      have H1 := Lib.hid h1
      have HAB := Lib.hid (And.intro ha hbb)
      clear hown hmk hsl h1 ha hbb
      go_wp2_with fail
      refine H1.out.mono ?_
      rintro e w2 ⟨rfl, hb2⟩
      have hbw2 := hb.trans (hb2.mono hb.size)
      have h2 := HHI.out w2 hbw2 k (by omega)
      rw [← HAB.out.2] at h2
      have H2 := Lib.hid h2
      clear h2
      go_wp2_with fail
      refine H2.out.mono ?_
      rintro e w3 ⟨rfl, hb3⟩
      have hbw3 := hbw2.trans (hb3.mono hbw2.size)
      have hown3 : w3.ownsRow wi.heap.size 5 1 (.slice A m c) m ((picTo f g k).map bv) := by
        have hbr : Below wr.heap.size wr w3 := hb2.trans (hb3.mono hb2.size)
        refine HOWN.out.kept (row := none) ⟨hbr.os, hbr.tape, hbr.output, hbr.size, fun j hj _ => hbr.block j hj⟩ ?_
        cases (Value.slice A m c).ownBlock <;> simp
      have HB3 := Lib.hid hbw3
      have hs3 := hbw3.size
      have HPUSH := Lib.hid (fun (W : World) (v : Value) (m : Nat) (l : List UInt8) (ho : W.ownsRow wi.heap.size 5 1 v m (l.map bv)) (hw : wi.heap.size ≤ W.heap.size) (hm : m ≤ 100000) (c : UInt8) (z : Int) (hz : z = (c.toNat : Int)) => push_byte W wi.heap.size v m l ho hw hm c hz)
      have hmk := HMK.out
      clear hb hb2 hbw2 hb3 hbw3
      cases a with
      | true =>
        obtain ⟨A4, c4, w4, hr4, ho4, hb4⟩ := HPUSH.out w3 _ m _ hown3 hs3 (by omega) 98 98 rfl
        have HO4 := Lib.hid ho4
        have HB4 := Lib.hid (HB3.out.trans hb4)
        cases b with
        | true =>
          obtain ⟨A5, c5, w5, hr5, ho5, hb5⟩ := HPUSH.out w4 _ (m + 1) _ ho4 (HB4.out.size) (by omega) 105 105 rfl
          have HO5 := Lib.hid ho5
          have HB5 := Lib.hid (HB4.out.trans hb5)
          clear hown3 ho4 hb4 ho5 hb5
          go_wp2_with fail
          refine ⟨⟨k + 1, m + 1 + 1, by omega, by go_num, HB5.out, by omega, ?_⟩, by simp [intOf]; omega⟩
          have e : picTo f g (k + 1) = picTo f g k ++ [98] ++ [105] := by rw [picTo_succ, ← HAB.out.1, ← HAB.out.2]; simp [picAt]
          rw [e]
          exact HO5.out
        | false =>
          clear hown3 ho4 hb4
          go_wp2_with fail
          refine ⟨⟨k + 1, m + 1, by omega, by go_num, HB4.out, by omega, ?_⟩, by simp [intOf]; omega⟩
          have e : picTo f g (k + 1) = picTo f g k ++ [98] := by rw [picTo_succ, ← HAB.out.1, ← HAB.out.2]; simp [picAt]
          rw [e]
          exact HO4.out
      | false =>
        obtain ⟨A4, c4, w4, hr4, ho4, hb4⟩ := HPUSH.out w3 _ m _ hown3 hs3 (by omega) 46 46 rfl
        have HO4 := Lib.hid ho4
        have HB4 := Lib.hid (HB3.out.trans hb4)
        cases b with
        | true =>
          obtain ⟨A5, c5, w5, hr5, ho5, hb5⟩ := HPUSH.out w4 _ (m + 1) _ ho4 (HB4.out.size) (by omega) 105 105 rfl
          have HO5 := Lib.hid ho5
          have HB5 := Lib.hid (HB4.out.trans hb5)
          clear hown3 ho4 hb4 ho5 hb5
          go_wp2_with fail
          refine ⟨⟨k + 1, m + 1 + 1, by omega, by go_num, HB5.out, by omega, ?_⟩, by simp [intOf]; omega⟩
          have e : picTo f g (k + 1) = picTo f g k ++ [46] ++ [105] := by rw [picTo_succ, ← HAB.out.1, ← HAB.out.2]; simp [picAt]
          rw [e]
          exact HO5.out
        | false =>
          clear hown3 ho4 hb4
          go_wp2_with fail
          refine ⟨⟨k + 1, m + 1, by omega, by go_num, HB4.out, by omega, ?_⟩, by simp [intOf]; omega⟩
          have e : picTo f g (k + 1) = picTo f g k ++ [46] := by rw [picTo_succ, ← HAB.out.1, ← HAB.out.2]; simp [picAt]
          rw [e]
          exact HO4.out
    · obtain rfl : k = n := by omega
      have hcv := convert_bytes Try.underlying39 Try.underlying5 hsl 9 Try.underlying9
      clear hown hsl
      go_wp2_with fail
      go_ret
      exact ⟨rfl, hb⟩
end
end Go.Proofs.Ytmhgahkainmbkaa
